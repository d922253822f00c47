/- The list of types holds of this program: by the kernel. -/
import Derived.Test.YtidjlmjibfbmjaaGreatDoorDl10
import Derived.Test.YtidjlmjibfbmjaaGreatDoorTheta
import Derived.Test.YtidjlmjibfbmjaaGreatDoorProg
namespace Go.DL
open Go.RowKit

def zeroB (a : A) (v : Value) : Bool := match a with
  | .d (.i k n) => match v with
    | .int k' n' => decide (k = k') && decide (n = n') && wfB k n
    | _ => false
  | .d (.b x) => match v with
    | .bool y => x == y
    | _ => false
  | .d (.s x) => match v with
    | .string y => x.size == 0 && y.size == 0
    | _ => false
  | .es => match v with
    | .slice _ 0 0 => true
    | _ => false
  | .nilp => match v with
    | .pointer none => true
    | _ => false
  | .nilf => match v with
    | .nilFunc => true
    | _ => false
  | .nilm => match v with
    | .map none => true
    | _ => false
  | _ => false
def zerosB : List A → List Value → Bool
  | [], [] => true
  | x :: xs, v :: vs => zeroB x v && zerosB xs vs
  | _, _ => false
def kindB : TK → TypeDesc → Bool
  | .int k, .int k' => decide (k = k')
  | .bool, .bool => true
  | .str, .string => true
  | .slice e, .slice e' => Nat.beq e e'
  | .struct fs, .struct fields => (fields.toList.map fun f => (f.offset, f.type)) == fs
  | .arr n e, .array n' e' => Nat.beq n n' && Nat.beq e e'
  | .ptr e, .pointer e' => Nat.beq e e'
  | .map k e, .map k' e' => Nat.beq k k' && Nat.beq e e'
  | .fn, .func .. => true
  | _, _ => false
def formB (agg : Bool) (z : Value) : Bool := match z with
  | .agg _ => agg
  | .int .. => !agg
  | .bool _ => !agg
  | .string _ => !agg
  | .slice .. => !agg
  | .pointer _ => !agg
  | .nilFunc => !agg
  | .map _ => !agg
  | _ => false
def fldsB (P : Program) : TK → Bool
  | .struct fs => fs.all fun p => (P.info? p.2).isSome
  | _ => true
def tiB (P : Program) (t : Nat) (ti : TI) : Bool := match P.info? t with
  | some i => match i.zero with
    | some z => Nat.beq i.size ti.size && Nat.beq i.bytes ti.bytes && Nat.beq z.cells.size ti.size && zerosB ti.zero z.cells.toList && formB ti.k.agg z && (match P.underlying t with
      | some d => kindB ti.k d
      | none => false) && fldsB P ti.k
    | none => false
  | none => false

theorem zeroB_out {a : A} {v : Value} (h : zeroB a v = true) (ρ H g w) : RV ρ H g w a v := by
  unfold zeroB at h
  split at h
  · split at h
    · simp only [Bool.and_eq_true, decide_eq_true_eq] at h
      obtain ⟨⟨rfl, rfl⟩, h⟩ := h
      simp only [RV, RD]
      exact ⟨trivial, wfB_out h⟩
    · cases h
  · split at h
    · simp at h
      simp [RV, RD, h]
    · cases h
  · split at h
    · rename_i x _ y
      simp only [Bool.and_eq_true, beq_iff_eq] at h
      have e : x = y := by
        apply ByteArray.ext
        have h1 : x.data = #[] := Array.eq_empty_of_size_eq_zero h.1
        have h2 : y.data = #[] := Array.eq_empty_of_size_eq_zero h.2
        rw [h1, h2]
      subst e
      simp only [RV, RD, true_and, h.1]
      exact Nat.zero_le _
    · cases h
  · split at h
    · simp [RV]
    · cases h
  · split at h
    · simp [RV]
    · cases h
  · split at h
    · simp [RV]
    · cases h
  · split at h
    · simp [RV]
    · cases h
  · cases h
theorem zerosB_out (ρ H g w) : ∀ {l : List A} {vs : List Value}, zerosB l vs = true → RVs ρ H g w l vs
  | [], [], _ => by simp [RVs]
  | [], _ :: _, h => by cases h
  | _ :: _, [], h => by cases h
  | x :: xs, v :: vs, h => by
    simp only [zerosB, Bool.and_eq_true] at h
    simp only [RVs]
    exact ⟨v, vs, rfl, zeroB_out h.1 _ _ _ _, zerosB_out ρ H g w h.2⟩
theorem kindB_out {k : TK} {d : TypeDesc} (h : kindB k d = true) : kindOk k d := by
  unfold kindB at h
  split at h
  · simp at h; simp [kindOk, h]
  · rfl
  · rfl
  · have h := Nat.eq_of_beq_eq_true h; subst h; rfl
  · simp only [beq_iff_eq] at h; exact ⟨_, rfl, h⟩
  · simp only [Bool.and_eq_true] at h
    have h1 := Nat.eq_of_beq_eq_true h.1
    have h2 := Nat.eq_of_beq_eq_true h.2
    subst h1 h2
    rfl
  · have h := Nat.eq_of_beq_eq_true h; subst h; rfl
  · simp only [Bool.and_eq_true] at h
    have h1 := Nat.eq_of_beq_eq_true h.1
    have h2 := Nat.eq_of_beq_eq_true h.2
    subst h1 h2
    rfl
  · exact ⟨_, _, _, rfl⟩
  · cases h
theorem formB_out {agg : Bool} {z : Value} (h : formB agg z = true) : if agg then ∃ cs, z = .agg cs else z.cells = #[z] := by
  unfold formB at h
  split at h
  · subst h; exact ⟨_, rfl⟩
  all_goals first | (cases h; done) | (simp only [Bool.not_eq_true'] at h; subst h; rfl)
theorem tiB_out {P : Program} {t : Nat} {ti : TI} (h : tiB P t ti = true) : TIok P t ti := by
  unfold tiB at h
  split at h
  · rename_i i hi
    split at h
    · rename_i z hz
      simp only [Bool.and_eq_true] at h
      obtain ⟨⟨⟨⟨⟨⟨h1, h2⟩, h3⟩, h4⟩, h5⟩, h6⟩, h7⟩ := h
      refine ⟨⟨i, z, hi, Nat.eq_of_beq_eq_true h1, Nat.eq_of_beq_eq_true h2, hz, Nat.eq_of_beq_eq_true h3, fun ρ H g w => zerosB_out ρ H g w h4, formB_out h5⟩, ?_, ?_⟩
      · split at h6
        · rename_i d hd
          exact ⟨d, hd, kindB_out h6⟩
        · cases h6
      · intro fs hk p hp
        rw [hk] at h7
        simp only [fldsB, List.all_eq_true] at h7
        exact Option.isSome_iff_exists.1 (h7 p hp)
    · cases h
  · cases h

theorem Θb : Θ.all (fun p => tiB Go.Proofs.Tryz.prog p.1 p.2) = true := by kernel_rfl
theorem Θok : ΘOk Go.Proofs.Tryz.prog Θ := fun t ti h => tiB_out (List.all_eq_true.1 Θb (t, ti) h)
end Go.DL
