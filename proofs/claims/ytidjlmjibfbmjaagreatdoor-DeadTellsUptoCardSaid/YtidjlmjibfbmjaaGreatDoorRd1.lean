/- Reading an argument as plain data, with its bulk. -/
import Derived.Test.YtidjlmjibfbmjaaGreatDoorDl23
import Derived.Test.YtidjlmjibfbmjaaGreatDoorRows
import Derived.ChangeArms
import Derived.Carry
namespace Go.DL
open Go.RowKit
mutual
def D.sz : D → Nat
  | .b _ => 1
  | .i .. => 1
  | .s x => x.size + 1
  | .sl els => D.szR els + 1
def D.szR : List (List D) → Nat
  | [] => 0
  | r :: rs => D.szL r + D.szR rs
def D.szL : List D → Nat
  | [] => 0
  | x :: xs => x.sz + D.szL xs
end
theorem szL_append : ∀ (xs ys : List D), D.szL (xs ++ ys) = D.szL xs + D.szL ys
  | [], ys => by simp [D.szL]
  | x :: xs, ys => by simp [D.szL, szL_append xs ys]; omega
/-- what a type's cells are, as plain data -/
def tyD (Θ : List (Nat × TI)) : Nat → Nat → List D → Prop
  | 0, _, _ => False
  | n + 1, t, ds => ∃ q, Θ.find? (fun q => Nat.beq q.1 t) = some q ∧ ds.length = q.2.size ∧ match q.2.k with
    | .int k => ∃ m, ds = [.i k m]
    | .bool => ∃ b, ds = [.b b]
    | .str => ∃ s, ds = [.s s]
    | .slice e => ∃ els : List (List D), ds = [.sl els] ∧ ∀ r ∈ els, tyD Θ n e r
    | .struct fs => ∀ p ∈ fs, ∃ tf, Θ.find? (fun q => Nat.beq q.1 p.2) = some tf ∧ tyD Θ n p.2 ((ds.drop p.1).take tf.2.size)
    | _ => False
/-- types that are read so: whole numbers, truth values, texts, slices, structs whose fields lie one behind the other -/
def tileB (Θ : List (Nat × TI)) (f : Nat → Bool) : List (Nat × Nat) → Nat → Nat → Bool
  | [], o, s => Nat.beq o s
  | p :: ps, o, s => Nat.beq p.1 o && (match Θ.find? (fun q => Nat.beq q.1 p.2) with
    | some q => f p.2 && tileB Θ f ps (o + q.2.size) s
    | none => false)
def fragB (Θ : List (Nat × TI)) : Nat → Nat → Bool
  | 0, _ => false
  | n + 1, t => match Θ.find? (fun q => Nat.beq q.1 t) with
    | some q => (match q.2.k with
      | .int _ => Nat.beq q.2.size 1
      | .bool => Nat.beq q.2.size 1
      | .str => Nat.beq q.2.size 1
      | .slice e => Nat.beq q.2.size 1 && (match Θ.find? (fun q => Nat.beq q.1 e) with
        | some qe => Nat.ble 1 qe.2.size && fragB Θ n e
        | none => false)
      | .struct fs => tileB Θ (fragB Θ n) fs 0 q.2.size
      | _ => false)
    | none => false
theorem find_in {Θ : List (Nat × TI)} {t : Nat} {q : Nat × TI} (h : Θ.find? (fun q => Nat.beq q.1 t) = some q) : (t, q.2) ∈ Θ := by
  have h1 := List.mem_of_find?_eq_some h
  have h2 := List.find?_some h
  have : q.1 = t := Nat.eq_of_beq_eq_true h2
  rw [← this]
  exact h1
theorem exists_list {α : Type} {P : Nat → α → Prop} : ∀ n : Nat, (∀ i, i < n → ∃ x, P i x) → ∃ l : List α, l.length = n ∧ ∀ i x, l[i]? = some x → P i x
  | 0, _ => ⟨[], rfl, by simp⟩
  | n + 1, h => by
    obtain ⟨l, h1, h2⟩ := exists_list n (fun i hi => h i (by omega))
    obtain ⟨x, hx⟩ := h n (by omega)
    refine ⟨l ++ [x], by simp [h1], fun i y hy => ?_⟩
    rw [List.getElem?_append] at hy
    split at hy
    · exact h2 i y hy
    · rename_i hi
      have : i - l.length = 0 := by
        have := (List.getElem?_eq_some_iff.1 hy).1
        simp at this
        omega
      rw [this] at hy
      simp at hy
      subst hy
      have : i = n := by omega
      rw [this]
      exact hx
section
variable {H : Type} {enc : TypeId × Value → H} {P : Program} {Θ : List (Nat × TI)} {w : World}
open Go.Proofs.YtidjlmjibfbmjaaGreatDoor.Rows (uptoBulk uptoBulkAll)
theorem cellsOf_size {t : Nat} {ti : TI} (h : TIok P t ti) : P.cellsOf t = ti.size := by
  obtain ⟨i, z, e1, e2, _⟩ := h.info
  unfold Program.cellsOf
  simp [e1, e2]
theorem bulk_take {l : List (DataW H)} {i : Nat} {x : DataW H} (h : l[i]? = some x) : uptoBulkAll (l.take i) + uptoBulk x = uptoBulkAll (l.take (i + 1)) := by
  induction l generalizing i with
  | nil => simp at h
  | cons y ys ih =>
    cases i with
    | zero => simp at h; subst h; simp [uptoBulkAll]
    | succ i =>
      have := ih (i := i) (by simpa using h)
      simp only [List.take_succ_cons, uptoBulkAll]
      omega
theorem mapD_append : ∀ (xs ys : List D), mapD (xs ++ ys) = mapD xs ++ mapD ys
  | [], _ => rfl
  | x :: xs, ys => by simp [mapD, mapD_append xs ys]
theorem wrap_wf {k : IntKind} {m : Int} (h : (Lit.int k m).wf = true) : k.wrap m = m := by
  have h' : k.min ≤ m ∧ m ≤ k.max := by simpa [Lit.wf] using h
  refine wrap_in k m ?_ ?_
  · cases k <;> simp [IntKind.min, IntKind.max, IntKind.signed, IntKind.bits, kMax] at h' ⊢ <;> omega
  · cases k <;> simp [IntKind.min, IntKind.max, IntKind.signed, IntKind.bits, kMax] at h' ⊢ <;> omega
theorem bulk_rows : ∀ {rows : List (List D)} {l : List (DataW H)}, rows.length = l.length → (∀ (i : Nat) (r : List D) (y : DataW H), rows[i]? = some r → l[i]? = some y → D.szL r ≤ uptoBulk y) → D.szR rows ≤ uptoBulkAll l
  | [], _, _, _ => by simp [D.szR]
  | r :: rs, [], hl, _ => by cases hl
  | r :: rs, y :: ys, hl, h => by
    have h0 := h 0 r y rfl rfl
    have := bulk_rows (rows := rs) (l := ys) (by simpa using hl) (fun i r' y' h1 h2 => h (i + 1) r' y' (by simpa using h1) (by simpa using h2))
    simp only [D.szR, uptoBulkAll]
    omega
theorem RVs_of_mapD : ∀ {ds : List D} {vs : List Value} {g : Nat → Prop}, RVs [] [] g w (mapD ds) vs → ∀ {j : Nat} {y : D}, ds[j]? = some y → ∃ u, vs[j]? = some u ∧ RD g w y u := fun h _ _ hj => RVs_mapD_get h hj
theorem tyD_len {n t : Nat} {ds : List D} (hΘ : ΘOk P Θ) (h : tyD Θ n t ds) : ds.length = P.cellsOf t := by
  cases n with
  | zero => exact h.elim
  | succ n =>
    obtain ⟨q, h1, h2, _⟩ := h
    rw [h2, cellsOf_size (hΘ _ _ (find_in h1))]
theorem read_fields (hΘ : ΘOk P Θ) {n : Nat} {sp : Nat → Bool} {hd : Bool} {m : Nat}
    (ih : ∀ t, fragB Θ n t = true → ∀ (cs : List Value) (x : DataW H) (ps : List MemPlace), DataW.trod enc P w 0 sp hd m t cs = some (x, ps) → ∃ ds : List D, tyD Θ n t ds ∧ RVs [] [] (fun _ => True) w (mapD ds) cs ∧ D.szL ds ≤ uptoBulk x) :
    ∀ (fl : List (Nat × Nat)) (o s : Nat) (cs : List Value) (xs : List (DataW H × List MemPlace)), tileB Θ (fragB Θ n) fl o s = true → cs.length = s → xs.length = fl.length →
      (∀ (i : Nat) (p : Nat × Nat), fl[i]? = some p → DataW.trod enc P w 0 sp hd m p.2 ((cs.drop p.1).take (P.cellsOf p.2)) = xs[i]?) →
      ∃ ds : List D, ds.length = s - o ∧ o ≤ s ∧ RVs [] [] (fun _ => True) w (mapD ds) (cs.drop o) ∧ (∀ p ∈ fl, o ≤ p.1 ∧ ∃ tf, Θ.find? (fun q => Nat.beq q.1 p.2) = some tf ∧ tyD Θ n p.2 ((ds.drop (p.1 - o)).take tf.2.size)) ∧ D.szL ds ≤ uptoBulkAll (xs.map (·.1))
  | [], o, s, cs, xs, h, hl, _, _ => by
    have e := Nat.eq_of_beq_eq_true h
    subst e
    refine ⟨[], by simp, Nat.le_refl _, ?_, by simp, by simp [D.szL]⟩
    rw [List.drop_eq_nil_of_le (by omega)]
    simp [mapD, RVs]
  | p :: fl, o, s, cs, xs, h, hl, hx, hall => by
    simp only [tileB, Bool.and_eq_true] at h
    obtain ⟨h0, h⟩ := h
    have h0 := Nat.eq_of_beq_eq_true h0
    cases hf : Θ.find? (fun q => Nat.beq q.1 p.2) with
    | none => rw [hf] at h; cases h
    | some q =>
      rw [hf] at h
      simp only [Bool.and_eq_true] at h
      have hin := find_in hf
      have hce := cellsOf_size (hΘ _ _ hin)
      cases xs with
      | nil => simp at hx
      | cons x xs =>
        have ht := hall 0 p rfl
        simp only [List.getElem?_cons_zero] at ht
        obtain ⟨d1, a1, a2, a3⟩ := ih p.2 h.1 _ x.1 x.2 ht
        obtain ⟨d2, b1, b0, b2, b3, b4⟩ := read_fields hΘ ih fl (o + q.2.size) s cs xs h.2 hl (by simpa using hx) (fun i p' hp => by
          have := hall (i + 1) p' (by simpa using hp)
          simpa using this)
        have hd1 : d1.length = q.2.size := by rw [tyD_len hΘ a1, hce]
        refine ⟨d1 ++ d2, by simp; omega, by omega, ?_, ?_, ?_⟩
        · rw [h0, hce] at a2
          have e : cs.drop o = (cs.drop o).take q.2.size ++ cs.drop (o + q.2.size) := by
            rw [← List.drop_drop, List.take_append_drop]
          rw [e, mapD_append]
          exact a2.append b2
        · intro p' hp'
          rcases List.mem_cons.1 hp' with rfl | hp'
          · refine ⟨by omega, q, hf, ?_⟩
            rw [h0, Nat.sub_self, List.drop_zero, List.take_left' hd1]
            exact a1
          · obtain ⟨c1, tf, c2, c3⟩ := b3 p' hp'
            refine ⟨by omega, tf, c2, ?_⟩
            have e : p'.1 - o = d1.length + (p'.1 - (o + q.2.size)) := by omega
            rw [e, List.drop_append, List.drop_eq_nil_of_le (by omega), List.nil_append, Nat.add_sub_cancel_left]
            exact c3
        · rw [szL_append]
          simp only [List.map_cons, uptoBulkAll]
          omega
theorem reads (hΘ : ΘOk P Θ) : ∀ (n t : Nat), fragB Θ n t = true → ∀ (sp : Nat → Bool) (hd : Bool) (fuel : Nat) (cs : List Value) (x : DataW H) (ps : List MemPlace),
    DataW.trod enc P w 0 sp hd fuel t cs = some (x, ps) → ∃ ds : List D, tyD Θ n t ds ∧ RVs [] [] (fun _ => True) w (mapD ds) cs ∧ D.szL ds ≤ uptoBulk x
  | 0, _, h => by cases h
  | n + 1, t, h => by
    intro sp hd fuel cs x ps ht
    simp only [fragB] at h
    cases hf : Θ.find? (fun q => Nat.beq q.1 t) with
    | none => rw [hf] at h; cases h
    | some q =>
      rw [hf] at h
      have hin := find_in hf
      have hti := hΘ _ _ hin
      obtain ⟨d, hu, hkd⟩ := hti.und
      simp only at h
      cases hk : q.2.k with
      | int k =>
        rw [hk] at h hkd
        simp only [kindOk] at hkd
        subst hkd
        obtain ⟨m, rfl, e, hw⟩ := DataW.trod_int hu ht
        cases e
        have hs := Nat.eq_of_beq_eq_true h
        refine ⟨[.i k m], ⟨q, hf, by simp [hs], by rw [hk]; exact ⟨m, rfl⟩⟩, ?_, by simp [D.szL, D.sz, uptoBulk]⟩
        simp only [mapD, RVs, RV, RD]
        exact ⟨_, _, rfl, ⟨rfl, wrap_wf hw⟩, rfl⟩
      | bool =>
        rw [hk] at h hkd
        simp only [kindOk] at hkd
        subst hkd
        obtain ⟨b, rfl, e⟩ := DataW.trod_bool hu ht
        cases e
        have hs := Nat.eq_of_beq_eq_true h
        refine ⟨[.b b], ⟨q, hf, by simp [hs], by rw [hk]; exact ⟨b, rfl⟩⟩, ?_, by simp [D.szL, D.sz, uptoBulk]⟩
        simp only [mapD, RVs, RV, RD]
        exact ⟨_, _, rfl, rfl, rfl⟩
      | str =>
        rw [hk] at h hkd
        simp only [kindOk] at hkd
        subst hkd
        obtain ⟨s, rfl, e, hw⟩ := DataW.trod_string hu ht
        cases e
        have hs := Nat.eq_of_beq_eq_true h
        refine ⟨[.s s], ⟨q, hf, by simp [hs], by rw [hk]; exact ⟨s, rfl⟩⟩, ?_, ?_⟩
        · simp only [mapD, RVs, RV, RD]
          exact ⟨_, _, rfl, ⟨rfl, hw⟩, rfl⟩
        · simp only [D.szL, D.sz, uptoBulk]
          exact Nat.le_of_eq rfl
      | slice e =>
        rw [hk] at h hkd
        simp only [kindOk] at hkd
        subst hkd
        simp only [Bool.and_eq_true] at h
        obtain ⟨hs, h⟩ := h
        have hs := Nat.eq_of_beq_eq_true hs
        cases hfe : Θ.find? (fun q => Nat.beq q.1 e) with
        | none => rw [hfe] at h; cases h
        | some qe =>
          rw [hfe] at h
          simp only [Bool.and_eq_true] at h
          obtain ⟨he1, he2⟩ := h
          have hes : 1 ≤ qe.2.size := Nat.le_of_ble_eq_true he1
          have hine := find_in hfe
          have hce := cellsOf_size (hΘ _ _ hine)
          rcases DataW.trod_slice hu ht with ⟨rfl, ex⟩ | ⟨a, len, cap, elems, rest, m, _, rfl, ex, _, hl, hm, hlen, hel, _, _⟩
          · cases ex
            refine ⟨[.sl []], ⟨q, hf, by simp [hs], by rw [hk]; exact ⟨[], rfl, by simp⟩⟩, ?_, by simp [D.szL, D.sz, D.szR, uptoBulk]⟩
            simp only [mapD, RVs, RV, RD]
            exact ⟨_, _, rfl, ⟨none, 0, 1, rfl, by simp, by simp [maxLen], by omega, .inl trivial⟩, rfl⟩
          · cases ex
            have each : ∀ i, i < len → ∃ r : List D, tyD Θ n e r ∧ ∃ cs' y, w.cells? 0 (a.add (i * P.cellsOf e)) (P.cellsOf e) = some cs' ∧ RVs [] [] (fun _ => True) w (mapD r) cs' ∧ elems[i]? = some y ∧ D.szL r ≤ uptoBulk y.1 := by
              intro i hi
              have h1 := hel i hi
              have h2 : i < elems.length := by omega
              rw [List.getElem?_eq_getElem h2, Option.bind_eq_some_iff] at h1
              obtain ⟨cs', hcs, hy⟩ := h1
              obtain ⟨r, r1, r2, r3⟩ := reads hΘ n e he2 sp hd m cs' elems[i].1 elems[i].2 hy
              exact ⟨r, r1, cs', elems[i], hcs, r2, List.getElem?_eq_getElem h2, r3⟩
            obtain ⟨rows, hrl, hr⟩ := exists_list len each
            have rowlen : ∀ (i : Nat) (r : List D), rows[i]? = some r → r.length = qe.2.size := by
              intro i r hir
              obtain ⟨_, cs', y, hcs, hrv, _, _⟩ := hr i r hir
              have := hrv.length
              rw [length_mapD] at this
              have h3 := (World.cells?_some hcs).2.1
              omega
            refine ⟨[.sl rows], ⟨q, hf, by simp [hs], by rw [hk]; exact ⟨rows, rfl, fun r hm => by obtain ⟨i, hi⟩ := List.getElem?_of_mem hm; exact (hr i r hi).1⟩⟩, ?_, ?_⟩
            · simp only [mapD, RVs, RV, RD]
              refine ⟨_, _, rfl, ⟨some a, cap, qe.2.size, by rw [hrl], by omega, hm, by omega, ?_⟩, rfl⟩
              cases rows with
              | nil => exact .inl rfl
              | cons r0 rs =>
                right
                have spot : a.spot = none := by
                  obtain ⟨_, cs', y, hcs, hrv, _, _⟩ := hr 0 r0 rfl
                  have hq := (World.cells?_some hcs).2.2 0 (by rw [hce]; omega)
                  have hadd : (a.add (0 * P.cellsOf e)).add 0 = a := by simp [Addr.add]
                  rw [hadd] at hq
                  have hl0 : 0 < cs'.length := by rw [(World.cells?_some hcs).2.1, hce]; omega
                  rw [List.getElem?_eq_getElem hl0] at hq
                  unfold World.cell? at hq
                  cases hs : a.spot with
                  | none => rfl
                  | some z =>
                    rw [hs] at hq
                    split at hq <;> simp at hq
                have ea : a = ⟨a.block, a.off, none⟩ := by rw [← spot]
                have cell : ∀ (i : Nat) (r : List D), (r0 :: rs)[i]? = some r → ∀ (j : Nat) (y : D), r[j]? = some y → ∃ u, w.cell? ⟨a.block, a.off + i * qe.2.size + j, none⟩ = some u ∧ RD (fun _ => True) w y u := by
                  intro i r hir j y hj
                  obtain ⟨_, cs', y', hcs, hrv, _, _⟩ := hr i r hir
                  obtain ⟨u, hu, hyu⟩ := RVs_of_mapD hrv hj
                  have hj' : j < P.cellsOf e := by
                    have h1 := (List.getElem?_eq_some_iff.1 hj).1
                    have h2 := rowlen i r hir
                    rw [hce]
                    omega
                  have hq := (World.cells?_some hcs).2.2 j hj'
                  rw [hu] at hq
                  refine ⟨u, ?_, hyu⟩
                  rw [← hq, ea, add_off, add_off, hce]
                refine ⟨a.block, a.off, by rw [← ea], trivial, RDrows_of fun i r hir => ⟨rowlen i r hir, RDs_of fun j y hj => cell i r hir j y hj⟩⟩
            · simp only [D.szL, D.sz, uptoBulk]
              have := bulk_rows (rows := rows) (l := elems.map (·.1)) (by rw [hrl, List.length_map, hlen]) (fun i r y h1 h2 => by
                obtain ⟨_, _, y', _, _, he, hb⟩ := hr i r h1
                rw [List.getElem?_map, he] at h2
                cases h2
                exact hb)
              omega
      | struct fs =>
        rw [hk] at h hkd
        simp only [kindOk] at hkd
        obtain ⟨fields, rfl, hfs⟩ := hkd
        obtain ⟨xs, m, _, ex, hlen, hxl, hall⟩ := DataW.trod_struct hu ht
        cases ex
        have hce := cellsOf_size hti
        have hfl : fs.length = fields.size := by rw [← hfs]; simp
        obtain ⟨ds, a1, _, a2, a3, a4⟩ := read_fields hΘ (fun t h' cs x ps hx => reads hΘ n t h' sp hd m cs x ps hx) fs 0 q.2.size cs xs h (by rw [hlen, hce]) (by rw [hxl, hfl]) (fun i p hp => by
          rw [← hfs, List.getElem?_map] at hp
          obtain ⟨fd, hfd, rfl⟩ := Option.map_eq_some_iff.1 hp
          exact hall i fd (by simpa using hfd))
        refine ⟨ds, ⟨q, hf, by simpa using a1, ?_⟩, by simpa using a2, ?_⟩
        · rw [hk]
          intro p hp
          obtain ⟨_, tf, c1, c2⟩ := a3 p hp
          exact ⟨tf, c1, by simpa using c2⟩
        · simp only [uptoBulk]
          omega
      | _ => rw [hk] at h; cases h
end
end Go.DL
