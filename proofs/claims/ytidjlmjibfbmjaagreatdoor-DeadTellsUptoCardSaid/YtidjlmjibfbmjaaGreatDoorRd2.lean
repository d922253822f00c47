/- A form out of its cells. -/
import Derived.Test.YtidjlmjibfbmjaaGreatDoorRd1
import Derived.Test.YtidjlmjibfbmjaaGreatDoorDf3
namespace Go.DL
open Go.RowKit
theorem tyD_at {n t : Nat} {ds : List D} {q : Nat × TI} (hq : Θ.find? (fun q => Nat.beq q.1 t) = some q) (h : tyD Θ (n + 1) t ds) : ds.length = q.2.size ∧ match q.2.k with
    | .int k => ∃ m, ds = [.i k m]
    | .bool => ∃ b, ds = [.b b]
    | .str => ∃ s, ds = [.s s]
    | .slice e => ∃ els : List (List D), ds = [.sl els] ∧ ∀ r ∈ els, tyD Θ n e r
    | .struct fs => ∀ p ∈ fs, ∃ tf, Θ.find? (fun q => Nat.beq q.1 p.2) = some tf ∧ tyD Θ n p.2 ((ds.drop p.1).take tf.2.size)
    | _ => False := by
  obtain ⟨q', h1, h2⟩ := h
  rw [hq] at h1
  cases h1
  exact h2
theorem rows_of {α : Type} {f : α → List D} : ∀ (els : List (List D)), (∀ r ∈ els, ∃ a, r = f a) → ∃ l : List α, els = l.map f
  | [], _ => ⟨[], rfl⟩
  | r :: rs, h => by
    obtain ⟨a, ha⟩ := h r (by simp)
    obtain ⟨l, hl⟩ := rows_of rs (fun r hr => h r (by simp [hr]))
    exact ⟨a :: l, by rw [ha, hl]; rfl⟩
theorem ty_int {n : Nat} {t : Nat} {k : IntKind} {s b : Nat} {z : List A} (hq : Θ.find? (fun q => Nat.beq q.1 t) = some (t, ⟨.int k, s, b, z⟩)) {ds : List D} (h : tyD Θ (n + 1) t ds) : ∃ m, ds = [.i k m] := (tyD_at hq h).2
theorem ty_ints {n : Nat} {t e : Nat} {s b s' b' : Nat} {z z' : List A} (hq : Θ.find? (fun q => Nat.beq q.1 t) = some (t, ⟨.slice e, s, b, z⟩)) (he : Θ.find? (fun q => Nat.beq q.1 e) = some (e, ⟨.int .i64, s', b', z'⟩)) {ds : List D} (h : tyD Θ (n + 2) t ds) :
    ∃ l : List Int, ds = [il l] := by
  obtain ⟨els, rfl, h2⟩ := (tyD_at hq h).2
  obtain ⟨l, rfl⟩ := rows_of (f := fun n => [D.i .i64 n]) els (fun r hr => ty_int he (h2 r hr))
  exact ⟨l, rfl⟩
theorem fld {n t : Nat} {ds : List D} {fs : List (Nat × Nat)} {s b : Nat} {z : List A} (hq : Θ.find? (fun q => Nat.beq q.1 t) = some (t, ⟨.struct fs, s, b, z⟩)) (h : tyD Θ (n + 1) t ds) (o e : Nat) (hp : (o, e) ∈ fs) {q : Nat × TI} (he : Θ.find? (fun q => Nat.beq q.1 e) = some q) :
    tyD Θ n e ((ds.drop o).take q.2.size) := by
  obtain ⟨tf, h1, h2⟩ := (tyD_at hq h).2 (o, e) hp
  simp only at h1 h2
  rw [he] at h1
  cases h1
  exact h2
theorem len6 {ds : List D} {n : Nat} (h : ds.length = n + 1) : ∃ x r, ds = x :: r ∧ r.length = n := by
  cases ds with
  | nil => simp at h
  | cons x r => exact ⟨x, r, rfl, by simpa using h⟩
set_option maxRecDepth 100000
theorem ty_edge {n : Nat} {ds : List D} (h : tyD Θ (n + 3) 99 ds) : ∃ e : Edg, ds = e.row := by
  have h0 := (tyD_at (t := 99) rfl h).1
  obtain ⟨x0, r, rfl, l0⟩ := len6 h0
  obtain ⟨x1, r, rfl, l1⟩ := len6 l0
  obtain rfl := List.eq_nil_of_length_eq_zero l1
  obtain ⟨a, ha⟩ := ty_int (t := 3) rfl (fld (t := 99) rfl h 0 3 (by simp) rfl)
  obtain ⟨l, hl⟩ := ty_ints (t := 52) rfl rfl (fld (t := 99) rfl h 1 52 (by simp) rfl)
  simp at ha hl
  exact ⟨⟨a, l⟩, by rw [ha, hl]; rfl⟩
theorem ty_ins {n : Nat} {ds : List D} (h : tyD Θ (n + 3) 66 ds) : ∃ x : Ins, ds = x.row := by
  have h0 := (tyD_at (t := 66) rfl h).1
  obtain ⟨x0, r, rfl, l0⟩ := len6 h0
  obtain ⟨x1, r, rfl, l1⟩ := len6 l0
  obtain ⟨x2, r, rfl, l2⟩ := len6 l1
  obtain ⟨x3, r, rfl, l3⟩ := len6 l2
  obtain ⟨x4, r, rfl, l4⟩ := len6 l3
  obtain ⟨x5, r, rfl, l5⟩ := len6 l4
  obtain ⟨x6, r, rfl, l6⟩ := len6 l5
  obtain rfl := List.eq_nil_of_length_eq_zero l6
  obtain ⟨a0, h0⟩ := ty_int (t := 3) rfl (fld (t := 66) rfl h 0 3 (by simp) rfl)
  obtain ⟨a1, h1⟩ := ty_int (t := 64) rfl (fld (t := 66) rfl h 1 64 (by simp) rfl)
  obtain ⟨a2, h2⟩ := ty_int (t := 3) rfl (fld (t := 66) rfl h 2 3 (by simp) rfl)
  obtain ⟨a3, h3⟩ := ty_int (t := 3) rfl (fld (t := 66) rfl h 3 3 (by simp) rfl)
  obtain ⟨a4, h4⟩ := ty_int (t := 63) rfl (fld (t := 66) rfl h 4 63 (by simp) rfl)
  obtain ⟨a5, h5⟩ := ty_ints (t := 52) rfl rfl (fld (t := 66) rfl h 5 52 (by simp) rfl)
  obtain ⟨a6, h6⟩ := ty_ints (t := 52) rfl rfl (fld (t := 66) rfl h 6 52 (by simp) rfl)
  simp at h0 h1 h2 h3 h4 h5 h6
  exact ⟨⟨a0, a1, a2, a3, a4, a5, a6⟩, by rw [h0, h1, h2, h3, h4, h5, h6]; rfl⟩
theorem ty_fin {n : Nat} {ds : List D} (h : tyD Θ (n + 5) 57 ds) : ∃ x : Fin', ds = x.row := by
  have h0 := (tyD_at (t := 57) rfl h).1
  obtain ⟨x0, r, rfl, l0⟩ := len6 h0
  obtain ⟨x1, r, rfl, l1⟩ := len6 l0
  obtain ⟨x2, r, rfl, l2⟩ := len6 l1
  obtain ⟨x3, r, rfl, l3⟩ := len6 l2
  obtain ⟨x4, r, rfl, l4⟩ := len6 l3
  obtain rfl := List.eq_nil_of_length_eq_zero l4
  obtain ⟨a0, h0⟩ := ty_int (t := 3) rfl (fld (t := 57) rfl h 0 3 (by simp) rfl)
  obtain ⟨a1, h1⟩ := ty_int (t := 3) rfl (fld (t := 57) rfl h 1 3 (by simp) rfl)
  obtain ⟨a2, h2⟩ := ty_ints (t := 52) rfl rfl (fld (t := 57) rfl h 2 52 (by simp) rfl)
  obtain ⟨els, h3, h3'⟩ := (tyD_at (t := 54) rfl (fld (t := 57) rfl h 3 54 (by simp) rfl)).2
  obtain ⟨l, rfl⟩ := rows_of (f := Edg.row) els (fun r hr => ty_edge (h3' r hr))
  obtain ⟨a4, h4⟩ := ty_int (t := 55) rfl (fld (t := 57) rfl h 4 55 (by simp) rfl)
  simp at h0 h1 h2 h3 h4
  exact ⟨⟨a0, a1, a2, l, a4⟩, by rw [h0, h1, h2, h3, h4]; rfl⟩
theorem ty_blk {n : Nat} {ds : List D} (h : tyD Θ (n + 6) 59 ds) : ∃ x : Blk, ds = x.row := by
  have h0 := (tyD_at (t := 59) rfl h).1
  obtain ⟨x0, r, rfl, l0⟩ := len6 h0
  obtain ⟨x1, r, rfl, l1⟩ := len6 l0
  obtain ⟨a0, h0'⟩ := ty_ints (t := 52) rfl rfl (fld (t := 59) rfl h 0 52 (by simp) rfl)
  obtain ⟨els, h3, h3'⟩ := (tyD_at (t := 53) rfl (fld (t := 59) rfl h 1 53 (by simp) rfl)).2
  obtain ⟨l, rfl⟩ := rows_of (f := Ins.row) els (fun r hr => ty_ins (h3' r hr))
  obtain ⟨fin, hf⟩ := ty_fin (fld (t := 59) rfl h 2 57 (by simp) rfl)
  have l2 : r.length = 5 := l1
  simp at h0' h3
  have hf' : r = fin.row := by
    rw [← hf]
    simp [← l2]
  exact ⟨⟨a0, l, fin⟩, by rw [h0', h3, hf']; rfl⟩
theorem ty_form {n : Nat} {ds : List D} (h : tyD Θ (n + 8) 27 ds) : ∃ f : Form, ds = f.row := by
  have h0 := (tyD_at (t := 27) rfl h).1
  obtain ⟨x0, r, rfl, l0⟩ := len6 h0
  obtain ⟨x1, r, rfl, l1⟩ := len6 l0
  obtain ⟨x2, r, rfl, l2⟩ := len6 l1
  obtain ⟨x3, r, rfl, l3⟩ := len6 l2
  obtain rfl := List.eq_nil_of_length_eq_zero l3
  have ht := fld (t := 27) rfl h 0 24 (by simp) rfl
  obtain ⟨a0, h0⟩ := ty_ints (t := 22) rfl rfl (fld (t := 24) rfl ht 0 22 (by simp) rfl)
  obtain ⟨a1, h1⟩ := ty_ints (t := 22) rfl rfl (fld (t := 24) rfl ht 1 22 (by simp) rfl)
  obtain ⟨a2, h2⟩ := ty_ints (t := 22) rfl rfl (fld (t := 27) rfl h 2 22 (by simp) rfl)
  obtain ⟨els, h3, h3'⟩ := (tyD_at (t := 25) rfl (fld (t := 27) rfl h 3 25 (by simp) rfl)).2
  obtain ⟨l, rfl⟩ := rows_of (f := Blk.row) els (fun r hr => ty_blk (h3' r hr))
  simp at h0 h1 h2 h3
  exact ⟨⟨a0, a1, a2, l⟩, by rw [h0, h1, h2, h3]; rfl⟩
theorem pureL_mapD : ∀ l : List D, A.pureL (mapD l) = true
  | [] => rfl
  | x :: xs => by simp [mapD, A.pureL, A.pure, pureL_mapD xs]
theorem sz_ints : ∀ l : List Int, (il l).sz = l.length + 1
  | [] => rfl
  | n :: l => by
    have := sz_ints l
    simp only [il, D.sz, List.map_cons, D.szR, D.szL, List.length_cons] at this ⊢
    omega
theorem sz_rows {α : Type} {f : α → List D} {g : α → Nat} (h : ∀ a, g a ≤ D.szL (f a)) : ∀ l : List α, sumL (l.map g) ≤ D.szR (l.map f)
  | [] => by simp [sumL, D.szR]
  | a :: l => by
    have := sz_rows h l
    have := h a
    simp only [List.map_cons, sumL, List.foldr_cons, D.szR] at *
    omega
theorem form_sz (f : Form) : f.size ≤ D.szL f.row := by
  have he : ∀ e : Edg, e.size ≤ D.szL e.row := fun e => by
    simp only [Edg.row, D.szL, sz_ints, D.sz, Edg.size]
    omega
  have hi : ∀ x : Ins, x.size ≤ D.szL x.row := fun x => by
    simp only [Ins.row, D.szL, sz_ints, D.sz, Ins.size]
    omega
  have hb : ∀ b : Blk, b.size ≤ D.szL b.row := fun b => by
    have h1 := sz_rows hi b.ins
    have h2 := sz_rows he b.fin.to
    simp only [Blk.row, Fin'.row, D.szL, sz_ints, D.sz, Blk.size]
    omega
  have h1 := sz_rows hb f.blocks
  simp only [Form.row, D.szL, sz_ints, D.sz, Form.size]
  omega
end Go.DL
