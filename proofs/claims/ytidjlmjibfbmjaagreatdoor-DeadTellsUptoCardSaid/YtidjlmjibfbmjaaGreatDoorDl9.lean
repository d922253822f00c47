/- Soundness of literals and calls; the sum of all operations. -/
import Derived.Test.YtidjlmjibfbmjaaGreatDoorDl8
namespace Go.DL
open Go.RowKit

theorem appK_out {α : Type} : ∀ (l r : List α) (K : List α → Prop), appK l r K → K (l ++ r)
  | [], _, _, h => by simpa [appK] using h
  | x :: xs, r, K, h => by
    simp only [appK] at h
    simpa using appK_out xs r _ h
theorem repA_out {α : Type} (xs : List α) : ∀ (n : Nat) (K : List α → Prop), repA xs n K → K (List.replicate n xs).flatten
  | 0, K, h => by simpa [repA] using h
  | n + 1, K, h => by
    simp only [repA] at h
    have := appK_out _ _ _ (repA_out xs n _ h)
    simpa [List.replicate_succ] using this
theorem chunkK_out (n : Nat) : ∀ (m : Nat) (l : List A) (K : List (List A) → Prop), chunkK n m l K → ∃ rows, K rows ∧ rows.length = m ∧ rows.flatten = l ∧ ∀ r ∈ rows, r.length = n
  | 0, l, K, h => by
    cases l with
    | nil => exact ⟨[], h, rfl, rfl, by simp⟩
    | cons _ _ => exact h.elim
  | m + 1, l, K, h => by
    simp only [chunkK] at h
    obtain ⟨h1, h⟩ := takeK_out _ _ _ h
    obtain ⟨h2, h⟩ := dropK_out _ _ _ h
    obtain ⟨rows, h3, h4, h5, h6⟩ := chunkK_out n m _ _ h
    refine ⟨_, h3, by simp [h4], by simp [h5], ?_⟩
    intro r hr
    simp only [List.mem_cons] at hr
    rcases hr with rfl | hr
    · simp; omega
    · exact h6 r hr
theorem flatten_get {α : Type} {n : Nat} : ∀ {rows : List (List α)}, (∀ r ∈ rows, r.length = n) → ∀ {i : Nat} {row : List α}, rows[i]? = some row → ∀ {j : Nat} {x : α}, row[j]? = some x → rows.flatten[i * n + j]? = some x
  | [], _, _, _, hi, _, _, _ => by simp at hi
  | r :: rs, hn, i, row, hi, j, x, hj => by
    have hr := hn r (by simp)
    cases i with
    | zero =>
      simp at hi
      subst hi
      have : j < r.length := (List.getElem?_eq_some_iff.1 hj).1
      simp only [Nat.zero_mul, Nat.zero_add, List.flatten_cons]
      rw [List.getElem?_append_left this]
      exact hj
    | succ i =>
      have := flatten_get (fun r' hr' => hn r' (List.mem_cons_of_mem _ hr')) (by simpa using hi) hj
      simp only [List.flatten_cons]
      rw [List.getElem?_append_right (by rw [hr, Nat.add_mul]; omega), hr, show (i + 1) * n + j - n = i * n + j by rw [Nat.add_mul]; omega]
      exact this

theorem fold_get (off : Nat) : ∀ (l : List Value) (k : Nat) (cs : Array Value), off + k + l.length ≤ cs.size → ∀ j,
    ((l.zipIdx k).foldl (fun (cs : Array Value) (x : Value × Nat) => cs.setIfInBounds (off + x.2) x.1) cs)[j]? = if off + k ≤ j ∧ j < off + k + l.length then l[j - (off + k)]? else cs[j]?
  | [], k, cs, _, j => by
    simp only [List.zipIdx_nil, List.foldl_nil, List.length_nil]
    rw [if_neg (by omega)]
  | v :: l, k, cs, h, j => by
    simp only [List.length_cons] at h
    simp only [List.zipIdx_cons, List.foldl_cons, List.length_cons]
    rw [fold_get off l (k + 1) _ (by rw [Array.size_setIfInBounds]; omega) j, Array.getElem?_setIfInBounds]
    by_cases h1 : j = off + k
    · subst h1
      rw [if_neg (by omega), if_pos rfl, if_pos (by omega), if_pos (by omega)]
      simp
    · rw [if_neg (by omega : ¬ off + k = j)]
      by_cases h2 : off + (k + 1) ≤ j ∧ j < off + (k + 1) + l.length
      · rw [if_pos h2, if_pos (by omega), show j - (off + k) = (j - (off + (k + 1))) + 1 by omega, List.getElem?_cons_succ]
      · rw [if_neg h2, if_neg (by omega)]
theorem fold_set (off : Nat) (l : List Value) (cs : Array Value) (h : off + l.length ≤ cs.size) :
    ((l.zipIdx 0).foldl (fun (cs : Array Value) (x : Value × Nat) => cs.setIfInBounds (off + x.2) x.1) cs).toList = cs.toList.take off ++ l ++ cs.toList.drop (off + l.length) := by
  apply List.ext_getElem?
  intro j
  rw [Array.getElem?_toList, fold_get off l 0 cs (by omega) j]
  have hl : cs.toList.length = cs.size := by simp
  have hm : min off cs.size = off := by omega
  rw [List.append_assoc, List.getElem?_append, List.length_take, hl, hm]
  by_cases h1 : j < off
  · rw [if_neg (by omega), if_pos h1, List.getElem?_take, if_pos h1, Array.getElem?_toList]
  · rw [if_neg h1, List.getElem?_append]
    by_cases h2 : j - off < l.length
    · rw [if_pos (by omega), if_pos h2]
      rfl
    · rw [if_neg (by omega), if_neg h2, List.getElem?_drop, Array.getElem?_toList]
      congr 1
      omega

section
variable {P : Program} {wb : World} {Θ : List (Nat × TI)} {G : Nat → Prop} {ρ : List Loc} {H : List Ob} {w : World} {a : Act} {env : List A} {K : A → List Ob → Prop}
theorem fillK_out (hE : RVs ρ H (gd G ρ H) w env a.tmps.toList) {place : Nat → (Nat → Nat → Prop) → Prop} {pl : Nat → Option (Nat × Nat)}
    (hp : ∀ i L, place i L → ∃ off size, pl i = some (off, size) ∧ L off size) : ∀ (parts : List (Nat × Operand)) {cs : List A} {vs : Array Value} {L : List A → Prop}, RVs ρ H (gd G ρ H) w cs vs.toList →
    fillK env place parts cs L → ∃ (cs' : List A) (vs' : Array Value), L cs' ∧ RVs ρ H (gd G ρ H) w cs' vs'.toList ∧ Instr.fill pl vs (parts.map fun x => (x.1, a.eval x.2)) = some vs'
  | [], cs, vs, L, hv, h => ⟨cs, vs, h, hv, rfl⟩
  | p :: ps, cs, vs, L, hv, h => by
    simp only [fillK] at h
    obtain ⟨y, h1, hy⟩ := evK_out hE h
    obtain ⟨vc, h2, hc⟩ := cellsK_out hy h1
    obtain ⟨off, size, hpl, h3⟩ := hp _ _ h2
    obtain ⟨hlen, h4⟩ := lenIs_out _ _ _ h3
    obtain ⟨hfit, h5⟩ := wrK_out _ _ _ _ h4
    have l1 := hc.length
    have l2 := hv.length
    simp only [Array.length_toList] at l1 l2
    have hf := fold_set off (a.eval p.2).cells.toList vs (by simp; omega)
    have hrv : RVs ρ H (gd G ρ H) w (cs.take off ++ vc ++ cs.drop (off + vc.length)) (((a.eval p.2).cells.toList.zipIdx 0).foldl (fun (cs : Array Value) (x : Value × Nat) => cs.setIfInBounds (off + x.2) x.1) vs).toList := by
      rw [hf]
      simp only [Array.length_toList, l1]
      exact ((hv.take off).append hc).append (hv.drop _)
    obtain ⟨cs', vs', r1, r2, r3⟩ := fillK_out hE hp ps hrv h5
    refine ⟨cs', vs', r1, r2, ?_⟩
    simp only [List.map_cons, Instr.fill, hpl]
    rw [if_neg (by simp; omega)]
    rw [← r3]
    congr 1
    rw [← Array.foldl_toList, Array.toList_zipIdx]

def placeOf (f : Field) : Sem (Nat × Nat) := Prod.mk f.offset <$> sizeOf f.type
theorem run_placeOf {f : Field} {i : TypeInfo} (h : P.info? f.type = some i) : (placeOf f).run P w = .ok (f.offset, i.size) w := by
  simp [placeOf, sizeOf, typeInfo, h]
theorem run_placesOf : ∀ (fields : List Field), (∀ f ∈ fields, ∃ i, P.info? f.type = some i) → ∃ l : List (Nat × Nat),
    (fields.mapM placeOf).run P w = .ok l w ∧ l.length = fields.length ∧
    ∀ (k : Nat) (f : Field) (i : TypeInfo), fields[k]? = some f → P.info? f.type = some i → l[k]? = some (f.offset, i.size)
  | [], _ => ⟨[], by simp, rfl, by simp⟩
  | f :: fs, h => by
    obtain ⟨i, hi⟩ := h f (by simp)
    obtain ⟨l, h1, h2, h3⟩ := run_placesOf fs (fun f' hf' => h f' (List.mem_cons_of_mem _ hf'))
    refine ⟨(f.offset, i.size) :: l, by simp [List.mapM_cons, run_placeOf hi, h1], by simp [h2], ?_⟩
    intro k f' i' hk hi'
    cases k with
    | zero =>
      simp at hk
      subst hk
      rw [hi] at hi'
      cases hi'
      simp
    | succ k => simpa using h3 k f' i' (by simpa using hk) hi'

theorem out_build (hΘ : ΘOk P Θ) (hS : SimH G wb ρ H w) (hE : RVs ρ H (gd G ρ H) w env a.tmps.toList) {o : Oper} {t : Nat} {parts : Array (Nat × Operand)} (ho : o.op = .build t parts)
    (h : opD P wb Θ (.build t parts) env H K) : OpOut P G wb ρ H w K ((execOp a.eval o).run P w) := by
  simp only [opD] at h
  obtain ⟨ti, h1, h2⟩ := tiK_out _ _ _ h
  obtain ⟨i, z, e1, e2, e3, e4, e5, e6, e7⟩ := (hΘ _ _ h1).info
  obtain ⟨d, d1, d2⟩ := (hΘ _ _ h1).und
  have hz : (zeroValue t).run P w = .ok z w := by simp [zeroValue, typeInfo, e1, e4]
  cases hk : ti.k with
  | struct fs =>
    rw [hk] at h2 d2
    simp only [kindOk] at d2
    obtain ⟨fields, rfl, hfs⟩ := d2
    have hall : ∀ f ∈ fields.toList, ∃ i, P.info? f.type = some i := fun f hf =>
      (hΘ _ _ h1).flds _ hk (f.offset, f.type) (by rw [← hfs]; exact List.mem_map.2 ⟨f, hf, rfl⟩)
    obtain ⟨l, l1, l2, l3⟩ := run_placesOf (P := P) (w := w) fields.toList hall
    have hm : (fields.mapM (m := Sem) fun f => Prod.mk f.offset <$> sizeOf f.type).run P w = .ok l.toArray w := by
      show (fields.mapM placeOf).run P w = _
      simp [Array.mapM_eq_mapM_toList, l1]
    obtain ⟨cs', vs', r1, r2, r3⟩ := fillK_out hE (pl := fun i => l[i]?) (place := fun f K => fieldK fs f fun off ft => tiK Θ ft fun tf => K off tf.size) (fun i L hl => by
      obtain ⟨p, hp, h3⟩ := fieldK_out _ _ _ hl
      obtain ⟨tf, hf, h4⟩ := tiK_out _ _ _ h3
      obtain ⟨i', _, f1, f2, _⟩ := (hΘ _ _ hf).info
      rw [← hfs, List.getElem?_map] at hp
      obtain ⟨fd, hfd, he⟩ := Option.map_eq_some_iff.1 hp
      subst he
      refine ⟨_, _, ?_, h4⟩
      rw [← f2]
      exact l3 i fd i' hfd f1) parts.toList (e6 ρ H _ w) h2
    have : (execOp a.eval o).run P w = .ok (.value (.agg vs')) w := by
      simp [execOp, ho, Instr.build, hz, run_underlying d1, hm, r3]
    rw [this]
    exact .val _ _ (.same hS r1 (by simp only [RV]; exact ⟨_, rfl, r2⟩))
  | arr n e =>
    rw [hk] at h2 d2
    simp only [kindOk] at d2
    subst d2
    obtain ⟨te, h3, h4⟩ := tiK_out _ _ _ h2
    obtain ⟨cs', vs', r1, r2, r3⟩ := fillK_out hE (pl := fun i => some (i * te.size, te.size)) (place := fun i K => nk (i * te.size) fun off => K off te.size) (fun i L hl => ⟨_, _, rfl, nk_out (K := fun off => L off te.size) hl⟩) parts.toList (e6 ρ H _ w) h4
    have : (execOp a.eval o).run P w = .ok (.value (.agg vs')) w := by
      simp [execOp, ho, Instr.build, hz, run_underlying d1, (hΘ _ _ h3).run_sizeOf, r3]
    rw [this]
    exact .val _ _ (.same hS r1 (by simp only [RV]; exact ⟨_, rfl, r2⟩))
  | _ => rw [hk] at h2; exact h2.elim

theorem out_buildSlice (hΘ : ΘOk P Θ) (hS : SimH G wb ρ H w) (hE : RVs ρ H (gd G ρ H) w env a.tmps.toList) {o : Oper} {t n : Nat} {parts : Array (Nat × Operand)} (ho : o.op = .buildSlice t n parts)
    (h : opD P wb Θ (.buildSlice t n parts) env H K) : OpOut P G wb ρ H w K ((execOp a.eval o).run P w) := by
  simp only [opD] at h
  obtain ⟨ti, h1, h2⟩ := tiK_out _ _ _ h
  clear h
  cases hk : ti.k with
  | slice e =>
    rw [hk] at h2
    obtain ⟨te, he, h3⟩ := tiK_out _ _ _ h2
    clear h2
    have u1 := (hΘ _ _ h1).slice hk
    obtain ⟨i, z, e1, e2, e3, e4, e5, e6, e7⟩ := (hΘ _ _ he).info
    cases hb : (Nat.ble 1 te.size && Nat.ble (n * te.size) 16777216) with
    | false => rw [hb] at h3; exact h3.elim
    | true =>
      rw [hb] at h3
      simp only [Bool.and_eq_true] at hb
      have hs1 := Nat.le_of_ble_eq_true hb.1
      have hs2 := Nat.le_of_ble_eq_true hb.2
      cases n with
      | zero =>
        cases hp : parts.toList with
        | cons _ _ => rw [hp] at h3; exact h3.elim
        | nil =>
          rw [hp] at h3
          have hp' : parts = #[] := by simpa using hp
          subst hp'
          have : (execOp a.eval o).run P w = .ok (.value (.slice (some ⟨w.heap.size, 0, none⟩) 0 0)) (w.alloc (.cells #[] e)) := by
            simp [execOp, ho, Instr.buildSlice, run_underlying u1, (hΘ _ _ he).run_sizeOf, Instr.fill, newRow]
            rw [Array.eq_empty_of_size_eq_zero (xs := Array.map _ (Array.range 0)) (by simp)]
          rw [this]
          have q5 : ∀ b, b < w.heap.size → (w.alloc (.cells #[] e)).heap[b]? = w.heap[b]? := fun b hb => heap_alloc_lt w _ b hb
          exact .val _ _ ⟨_, _, _, h3, sim_still hS rfl rfl rfl (by simp) q5, by simp [RV], step_still rfl rfl rfl (by simp) q5⟩
      | succ n =>
        have h4 := repA_out _ _ _ h3
        have hl : ∀ {j : Nat} {v : Value}, (List.replicate (n + 1) z.cells.toList).flatten[j]? = some v ↔ ((Array.range ((n + 1) * te.size)).map (fun q => z.cells[q % z.cells.size]!))[j]? = some v := by
          intro j v
          have key : (madeCells z.cells ((n + 1) * te.size)).toList = (List.replicate (n + 1) z.cells.toList).flatten := by
            apply List.ext_getElem?
            intro q
            have hsz := size_madeCells z.cells ((n + 1) * te.size)
            have hfl : (List.replicate (n + 1) z.cells.toList).flatten.length = (n + 1) * te.size := by simp [e5]
            by_cases hq : q < (n + 1) * te.size
            · have hq1 : q / te.size < n + 1 := (Nat.div_lt_iff_lt_mul hs1).2 hq
              have hq2 : q % te.size < te.size := Nat.mod_lt _ hs1
              have hq3 : q / te.size * te.size + q % te.size = q := by rw [Nat.mul_comm]; exact Nat.div_add_mod q te.size
              have a1 := madeCells_get z.cells (n + 1) te.size _ _ e5 hq1 hq2
              rw [hq3] at a1
              have hjv : z.cells.toList[q % te.size]? = some (z.cells.toList[q % te.size]'(by simp [e5]; exact hq2)) := by simp
              have a2 := flatten_get (n := te.size) (rows := List.replicate (n + 1) z.cells.toList) (fun r hr => by rw [(List.mem_replicate.1 hr).2]; simp [e5]) (i := q / te.size) (row := z.cells.toList) (by rw [List.getElem?_replicate, if_pos hq1]) hjv
              rw [hq3] at a2
              rw [Array.getElem?_toList, a1, a2, ← hjv, Array.getElem?_toList]
            · rw [List.getElem?_eq_none (by rw [Array.length_toList, hsz]; omega), List.getElem?_eq_none (by omega)]
          rw [← key, Array.getElem?_toList]
          rfl
        have hz : RVs ρ H (gd G ρ H) w (List.replicate (n + 1) te.zero).flatten ((Array.range ((n + 1) * te.size)).map (fun q => z.cells[q % z.cells.size]!)).toList := by
          have : ((Array.range ((n + 1) * te.size)).map (fun q => z.cells[q % z.cells.size]!)).toList = (List.replicate (n + 1) z.cells.toList).flatten := by
            apply List.ext_getElem?
            intro j
            apply Option.ext
            intro v
            rw [hl, Array.getElem?_toList]
          rw [this]
          generalize n + 1 = m
          induction m with
          | zero => simp [RVs]
          | succ m ih =>
            simp only [List.replicate_succ, List.flatten_cons]
            exact (e6 ρ H _ w).append ih
        obtain ⟨cs', vs', r1, r2, r3⟩ := fillK_out hE (pl := fun i => some (i * te.size, te.size)) (place := fun i K => nk (i * te.size) fun off => K off te.size) (fun i L hl => ⟨_, _, rfl, nk_out (K := fun off => L off te.size) hl⟩) parts.toList hz h4
        have hone := allOne_one r1
        obtain ⟨h5, _⟩ := allOne_out r2 r1
        obtain ⟨rows, h6, h7, h8, h9⟩ := chunkK_out _ _ _ _ h5
        have h6 := snocK_out _ _ _ (lenK_out _ _ _ h6)
        rw [Nat.zero_add] at h6
        have hm : (n + 1) * te.size ≠ 0 := Nat.mul_ne_zero (by omega) (by omega)
        have hlt : ¬ 16777216 < (n + 1) * te.size := by omega
        have hzv : (zeroValue e).run P w = .ok z w := by simp [zeroValue, typeInfo, e1, e4]
        have hfin : (execOp a.eval o).run P w = .ok (.value (.slice (some ⟨w.heap.size, 0, none⟩) (n + 1) (n + 1))) (w.alloc (.cells vs' e)) := by
          simp [execOp, ho, Instr.buildSlice, run_underlying u1, (hΘ _ _ he).run_sizeOf, hlt, hm, hzv, r3, newRow]
        rw [hfin]
        have hvl : vs'.size = (n + 1) * te.size := by
          have k1 := r2.length
          rw [Array.length_toList, ← h8, List.length_flatten] at k1
          rw [k1]
          have : rows.map List.length = List.replicate (n + 1) te.size := by
            rw [List.eq_replicate_iff]
            refine ⟨by simp [h7], ?_⟩
            intro b hb
            obtain ⟨r, hr, rfl⟩ := List.mem_map.1 hb
            exact h9 r hr
          rw [this, List.sum_replicate_nat]
        have := new_vec (K := K) (w' := w.alloc (.cells vs' e)) (cap := n + 1) (es := te.size) (rows := rows) hS rfl rfl rfl (by simp) (fun b hb => heap_alloc_lt w _ b hb) (heap_alloc_new w _)
          (by omega) (by omega) (by
            have : n + 1 ≤ (n + 1) * te.size := Nat.le_mul_of_pos_right _ hs1
            simp only [maxLen]
            omega) hs1 ?_ h6
        · obtain ⟨xx, ρ2, H2, k1, k2, k3, k4⟩ := this
          rw [h7] at k3
          exact .val _ _ ⟨xx, ρ2, H2, k1, k2, k3, k4⟩
        · intro ii row hr
          have hmem : row ∈ rows := List.mem_of_getElem? hr
          refine ⟨h9 _ hmem, fun j x hx => ?_⟩
          have hg := flatten_get h9 hr hx
          rw [h8] at hg
          obtain ⟨u, hu, hxu⟩ := r2.get hg
          exact ⟨hone _ (List.mem_of_getElem? hg), u, by simpa using hu, hxu⟩
  | _ => rw [hk] at h2; exact h2.elim

theorem clearN_eq (z : List A) : ∀ (n : Nat) (l : List (List A)), clearN z n l = l.take n ++ List.replicate (l.length - n) z
  | n, [] => by cases n <;> simp [clearN]
  | 0, x :: xs => by
    simp only [clearN]
    rw [clearN_eq z 0 xs]
    simp [List.replicate_succ]
  | n + 1, x :: xs => by
    simp only [clearN]
    rw [clearN_eq z n xs]
    simp
theorem zeroCells_get (z : Array Value) (m es i j : Nat) (hz : z.size = es) (hi : i < m) (hj : j < es) : (Builtin.zeroCells z m).toList[i * es + j]? = z[j]? := by
  have hlt : i * es + j < m * es := by
    have : (i + 1) * es ≤ m * es := Nat.mul_le_mul_right _ hi
    rw [Nat.add_mul] at this
    omega
  have hmod : (i * es + j) % z.size = j := by rw [hz, Nat.mul_comm, Nat.mul_add_mod, Nat.mod_eq_of_lt hj]
  unfold Builtin.zeroCells
  rw [Array.getElem?_toList, Array.getElem?_map, Array.getElem?_range, if_pos (by rw [hz]; exact hlt)]
  simp only [Option.map_some, hmod]
  have hj' : j < z.size := by omega
  rw [Array.getElem?_eq_getElem hj']
  simp [hj']
theorem zeroCells_len (z : Array Value) (m : Nat) : (Builtin.zeroCells z m).toList.length = m * z.size := by simp [Builtin.zeroCells]
theorem zeroCells_mem (z : Array Value) (m : Nat) {v : Value} (h : v ∈ (Builtin.zeroCells z m).toList) : v ∈ z.toList := by
  obtain ⟨k, hk⟩ := List.getElem?_of_mem h
  have hlt := (List.getElem?_eq_some_iff.1 hk).1
  rw [zeroCells_len] at hlt
  have hz : 0 < z.size := by
    rcases Nat.eq_zero_or_pos z.size with h0 | h0
    · rw [h0] at hlt; simp at hlt
    · exact h0
  have h1 : k / z.size < m := (Nat.div_lt_iff_lt_mul hz).2 hlt
  have h2 : k % z.size < z.size := Nat.mod_lt _ hz
  have := zeroCells_get z m z.size (k / z.size) (k % z.size) rfl h1 h2
  rw [Nat.mul_comm (k / z.size), Nat.div_add_mod] at this
  rw [this] at hk
  rw [← Array.getElem?_toList] at hk
  exact List.mem_of_getElem? hk
theorem out_clear (hS : SimH G wb ρ H w) {xv : Value} {x : A} {t ty e : Nat} {te : TI} (ht : P.underlying t = some (.slice e)) (hte : TIok P e te)
    (h : match x with
      | .es => K (.tup []) H
      | .vs o g off => allOne te.zero (getO H o fun ob => match ob with
        | .vec g' es els => g = g' ∧ es = te.size ∧ setK H o (.vec g es (clearN te.zero off els)) fun H' => K (.tup []) H'
        | _ => False)
      | _ => False) (hx : RV ρ H (gd G ρ H) w x xv) : ∃ w', (Builtin.clear_ #[t] ty #[xv]).run P w = .ok (.tuple #[]) w' ∧ OpRes G wb ρ H w K (.tuple #[]) w' := by
  cases x with
  | es =>
    simp only [RV] at hx
    obtain ⟨a, rfl⟩ := hx
    refine ⟨w, ?_, .same hS h (by simp [RV, RVs])⟩
    cases a <;> simp [Builtin.clear_, run_underlying ht]
  | vs o gn off =>
    obtain ⟨i, z, e1, e2, e3, e4, e5, e6, e7⟩ := hte.info
    have hz := e6 ρ H (gd G ρ H) w
    have hone' := allOne_one h
    obtain ⟨h, hone⟩ := allOne_out hz h
    obtain ⟨obj, hob, h⟩ := getO_out _ _ _ h
    cases obj with
    | vec g' es els =>
      obtain ⟨e, ee, hk⟩ := h
      subst e
      subst ee
      have hk := setK_out _ _ _ _ hk
      simp only [RV] at hx
      obtain ⟨l, a, hl, hoff, rfl, ha⟩ := (hx.2.2 _ _ _ hob).2 rfl
      clear hx h
      have hok := hS.ok o l _ hl hob
      simp only [ObOk] at hok
      obtain ⟨k1, k2, k3, k4, k5⟩ := hok
      rcases Nat.lt_or_ge off els.length with hlt | hge
      · have hcap : 0 < l.cap := by clear k4 ha; omega
        obtain ⟨cur, T, hh, hsz⟩ := k4 hcap
        clear k4
        have ha' := ha (by clear ha; omega)
        clear ha
        subst ha'
        have hzl : (Builtin.zeroCells z.cells (els.length - off)).toList.length = (els.length - off) * te.size := by rw [zeroCells_len, e5]
        have hfit : l.off + off * te.size + (els.length - off) * te.size ≤ cur.size := by
          have h1 : (off + (els.length - off)) * te.size ≤ l.cap * te.size := Nat.mul_le_mul_right _ (by omega)
          rw [Nat.add_mul] at h1
          omega
        have hst := run_storeCells_at P l.blk (l.off + off * te.size) T (Builtin.zeroCells z.cells (els.length - off)).toList 0 cur w hh (by rw [hzl]; simpa using hfit) (fun v hv => hone v (zeroCells_mem _ _ hv))
        simp only [Nat.add_zero] at hst
        refine ⟨w.setRow l.blk (cur.toList.take (l.off + off * te.size) ++ (Builtin.zeroCells z.cells (els.length - off)).toList ++ cur.toList.drop (l.off + off * te.size + (Builtin.zeroCells z.cells (els.length - off)).toList.length)).toArray, ?_, ?_⟩
        · obtain ⟨m, hm⟩ : ∃ m, els.length - off = m + 1 := ⟨els.length - off - 1, by omega⟩
          rw [hm] at hst ⊢
          simp only [Builtin.clear_]
          simp [run_underlying ht, typeInfo, e1, e4, hst, zeroValue]
        · have ht' : Turns (.vec gn te.size els) (.vec gn te.size (clearN te.zero off els)) l l := .inr ⟨gn, _, rfl, Nat.le_refl _, fun _ => ⟨by rw [clearN_eq]; simp; omega, rfl⟩⟩
          have hs := step_row hS hl hob (show 0 < l.cap from hcap) ht' (cur.toList.take (l.off + off * te.size) ++ (Builtin.zeroCells z.cells (els.length - off)).toList ++ cur.toList.drop (l.off + off * te.size + (Builtin.zeroCells z.cells (els.length - off)).toList.length)).toArray
          refine ⟨_, _, _, hk, sim_row hS hl hob hcap ht' _ ?_, by simp [RV, RVs], hs⟩
          have hseg := cell_seg hh (l.off + off * te.size) (Builtin.zeroCells z.cells (els.length - off)).toList (by rw [hzl]; exact hfit)
          simp only [ObOk]
          refine ⟨by rw [clearN_eq]; simp; omega, k2, k3, fun _ => ⟨_, T, setRow_heap w l.blk cur _ T (0, 0) hh, ?_⟩, ?_⟩
          · simp only [List.size_toArray, List.length_append, List.length_take, List.length_drop, Array.length_toList, hzl]
            omega
          · rw [RVrows_iff] at k5 ⊢
            intro i' row hr
            rw [clearN_eq] at hr
            by_cases hi : i' < off
            · rw [List.getElem?_append_left (by simp; omega), List.getElem?_take_of_lt hi] at hr
              obtain ⟨c1, c2⟩ := k5 i' row hr
              refine ⟨c1, ?_⟩
              rw [RVcells_iff] at c2 ⊢
              intro j x hj
              obtain ⟨o1, u, hu, hxu⟩ := c2 j x hj
              refine ⟨o1, u, ?_, hs.rv hS.len hxu⟩
              rw [hseg, if_neg]
              · exact hu
              · have hj' := (List.getElem?_eq_some_iff.1 hj).1
                have : (i' + 1) * te.size ≤ off * te.size := Nat.mul_le_mul_right _ hi
                rw [Nat.add_mul] at this
                omega
            · rw [List.getElem?_append_right (by simp; omega), List.getElem?_replicate] at hr
              split at hr
              · rename_i hi2
                cases hr
                have hzl2 : te.zero.length = te.size := by
                  have := hz.length
                  rw [Array.length_toList] at this
                  omega
                refine ⟨hzl2, ?_⟩
                rw [RVcells_iff]
                intro j x hj
                have hj' := (List.getElem?_eq_some_iff.1 hj).1
                obtain ⟨u, hu, hxu⟩ := hz.get hj
                refine ⟨hone' _ (List.mem_of_getElem? hj), u, ?_, hs.rv hS.len hxu⟩
                have hi3 : i' - off < els.length - off := by simp at hi2; omega
                have hle : (i' - off + 1) * te.size ≤ (els.length - off) * te.size := Nat.mul_le_mul_right _ hi3
                have hsum : i' * te.size = off * te.size + (i' - off) * te.size := by rw [← Nat.add_mul]; congr 1; omega
                rw [Nat.add_mul] at hle
                rw [hseg, if_pos (by rw [hzl]; omega)]
                have hidx : l.off + i' * te.size + j - (l.off + off * te.size) = (i' - off) * te.size + j := by omega
                rw [hidx, zeroCells_get z.cells (els.length - off) te.size (i' - off) j e5 hi3 (by omega)]
                simpa using hu
              · cases hr
      · have hlen0 : els.length - off = 0 := by omega
        have hcl : clearN te.zero off els = els := by rw [clearN_eq, hlen0]; simp [List.take_of_length_le hge]
        rw [hcl, set_self hob] at hk
        refine ⟨w, ?_, .same hS hk (by simp [RV, RVs])⟩
        rw [hlen0]
        cases a <;> simp [Builtin.clear_, run_underlying ht]
    | _ => exact h.elim
  | _ => exact h.elim
theorem out_makeFunc' (hS : SimH G wb ρ H w) {o : Oper} {c : Call} (ho : o.op = .call c) (hE : RVs ρ H (gd G ρ H) w env a.tmps.toList) {f : Operand} (hc : c.callee = .value f)
    (h : evK env f fun fv => evsK env c.args.toList fun xs => match fv with
      | .fn g fs cs => CallOk P wb g (fs ++ (xs ++ cs)) H K
      | _ => False) : OpOut P G wb ρ H w K ((execOp a.eval o).run P w) := by
  obtain ⟨fv, h1, hf⟩ := evK_out hE h
  obtain ⟨xs, h2, hx⟩ := evsK_out hE _ _ h1
  cases fv with
  | fn g fs cs =>
    simp only [RV] at hf
    obtain ⟨x, y, e, hfs, hcs⟩ := hf
    have hrun : (execOp a.eval o).run P w = .ok (.enter g (x ++ c.args.map a.eval ++ y)) w := by
      simp [execOp, ho, resolve, hc, Deferred.ofValue, e, invoke, h2.ent]
    rw [hrun]
    have hall : RVs ρ H (gd G ρ H) w (fs ++ (xs ++ cs)) (x.toList ++ (c.args.toList.map a.eval ++ y.toList)) := hfs.append (hx.append hcs)
    refine .call _ _ ?_
    have hk := h2.out G ρ w _ hS hall
    have ea : (x.toList ++ (c.args.toList.map a.eval ++ y.toList)).toArray = x ++ c.args.map a.eval ++ y := by
      apply Array.toList_inj.1
      simp
    rw [ea] at hk
    intro k
    obtain ⟨e', w', fr, ⟨v, r, ρ', H', rfl, q1, q2, q3, q4⟩, hq⟩ := hk k
    exact ⟨_, w', fr, ⟨v, rfl, r, ρ', H', q1, q2, q3, q4⟩, hq⟩
  | _ => exact h2.elim

theorem opD_out (hΘ : ΘOk P Θ) (hS : SimH G wb ρ H w) (hE : RVs ρ H (gd G ρ H) w env a.tmps.toList) {o : Oper} (h : opD P wb Θ o.op env H K) : OpOut P G wb ρ H w K ((execOp a.eval o).run P w) := by
  cases ho : o.op with
  | move x =>
    rw [ho] at h
    have : (execOp a.eval o).run P w = .ok (.value (a.eval x)) w := by simp [execOp, ho]
    rw [this]
    exact out_move hS hE h
  | assign x =>
    rw [ho] at h
    have : (execOp a.eval o).run P w = .ok (.value (a.eval x)) w := by simp [execOp, ho]
    rw [this]
    exact out_move hS hE h
  | pick c x y => rw [ho] at h; exact out_pick hS hE ho h
  | alloc t => rw [ho] at h; exact out_alloc hΘ hS ho h
  | box t x => rw [ho] at h; exact out_box hS hE ho h
  | build t parts => rw [ho] at h; exact out_build hΘ hS hE ho h
  | buildSlice t n parts => rw [ho] at h; exact out_buildSlice hΘ hS hE ho h
  | load t x => rw [ho] at h; exact out_load hΘ hS hE ho h
  | store t x y => rw [ho] at h; exact out_store hΘ hS hE ho h
  | nilCheck x => rw [ho] at h; exact out_nilCheck hS hE ho h
  | binOp op t x y b =>
    rw [ho] at h
    by_cases hy : y = .const (.slice none 0 0)
    · subst hy
      exact out_nil hΘ hS hE ho h
    · refine out_binOp hΘ hS hE ho ?_
      have e : (fun a => match (generalizing := false) y with
        | .const (.slice none 0 0) => tiK Θ t fun ti => match ti.k with
          | .slice _ => nilD op a H fun v => K v H
          | _ => False
        | y => evK env y fun b => binD Θ t op a b H fun v => K v H) = fun a => evK env y fun b => binD Θ t op a b H fun v => K v H := by
        funext a
        split
        · exact absurd rfl hy
        · rfl
      rw [← e]
      exact h
  | unOp op t x => rw [ho] at h; exact out_unOp hS hE ho h
  | convert s d x => rw [ho] at h; exact out_convert hΘ hS hE ho h
  | makeFunc f fs cs =>
    rw [ho] at h
    cases f with
    | func f => exact out_makeFunc hS hE ho h
    | _ => exact h.elim
  | makeMap t r => rw [ho] at h; exact out_makeMap hS ho h
  | makeSlice t l c => rw [ho] at h; exact out_makeSlice hΘ hS hE ho h
  | slice t x lo hi mx => rw [ho] at h; exact out_slice hΘ hS hE ho h
  | fieldAddr t x f => rw [ho] at h; exact out_fieldAddr hΘ hS hE ho h
  | field t x f => rw [ho] at h; exact out_field hΘ hS hE ho h
  | indexAddr t x i => rw [ho] at h; exact out_indexAddr hΘ hS hE ho h
  | index t x i => rw [ho] at h; exact out_index hΘ hS hE ho h
  | lookup t x i ok => rw [ho] at h; exact out_lookup hΘ hS hE ho h
  | mapUpdate t x k y => rw [ho] at h; exact out_mapUpdate hΘ hS hE ho h
  | extract x i => rw [ho] at h; exact out_extract hS hE ho h
  | call c =>
    rw [ho] at h
    simp only [opD] at h
    cases hc : c.callee with
    | value f =>
      rw [hc] at h
      exact out_makeFunc' hS ho hE hc h
    | invoke r n => rw [hc] at h; exact h.elim
    | builtin b =>
      rw [hc] at h
      obtain ⟨cc, ca, ct⟩ := c
      simp only at hc h
      subst hc
      cases b with
      | len =>
        simp only at h
        split at h
        · rename_i x t hx ht
          have hx' : ca = #[x] := by rw [← Array.toList_inj, hx]
          have ht' : ct = #[t] := by rw [← Array.toList_inj, ht]
          subst hx' ht'
          exact out_len hΘ hS hE ho h
        · exact h.elim
      | clear =>
        simp only at h
        split at h
        · rename_i x t hx ht
          have hx' : ca = #[x] := by rw [← Array.toList_inj, hx]
          have ht' : ct = #[t] := by rw [← Array.toList_inj, ht]
          subst hx' ht'
          obtain ⟨ti, h1, h2⟩ := tiK_out _ _ _ h
          cases hk : ti.k with
          | slice e =>
            rw [hk] at h2
            obtain ⟨te, h3, h4⟩ := tiK_out _ _ _ h2
            obtain ⟨xa, h5, hx⟩ := evK_out hE h4
            obtain ⟨w', r1, r2⟩ := out_clear (ty := o.type) hS ((hΘ _ _ h1).slice hk) (hΘ _ _ h3) h5 hx
            have : (execOp a.eval o).run P w = .ok (.value (.tuple #[])) w' := by
              simp [execOp, ho, resolve, invoke, builtin, r1]
            rw [this]
            exact .val _ _ r2
          | _ => rw [hk] at h2; exact h2.elim
        · exact h.elim
      | append =>
        simp only at h
        split at h
        · rename_i x y t t' hx ht
          have hx' : ca = #[x, y] := by rw [← Array.toList_inj, hx]
          have ht' : ct = #[t, t'] := by rw [← Array.toList_inj, ht]
          subst hx' ht'
          split at h
          · rename_i e
            have e := Nat.eq_of_beq_eq_true e
            subst e
            obtain ⟨ti, h1, h2⟩ := tiK_out _ _ _ h
            cases hk : ti.k with
            | slice e =>
              rw [hk] at h2
              obtain ⟨te, h3, h4⟩ := tiK_out _ _ _ h2
              cases hb : (Nat.ble 1 te.bytes && Nat.ble 1 te.size) with
              | false => rw [hb] at h4; exact h4.elim
              | true =>
                rw [hb] at h4
                simp only [Bool.and_eq_true] at hb
                obtain ⟨xa, h5, hx⟩ := evK_out hE h4
                obtain ⟨ya, h6, hy⟩ := evK_out hE h5
                obtain ⟨v, w', r1, r2⟩ := out_append (ty := o.type) hS ((hΘ _ _ h1).slice hk) (hΘ _ _ h3) (Nat.le_of_ble_eq_true hb.2) (Nat.le_of_ble_eq_true hb.1) hx hy h6
                have : (execOp a.eval o).run P w = .ok (.value v) w' := by
                  simp [execOp, ho, resolve, invoke, builtin, r1]
                rw [this]
                exact .val _ _ r2
            | _ => rw [hk] at h2; exact h2.elim
          · exact h.elim
        · exact h.elim
      | delete =>
        simp only at h
        split at h
        · rename_i x y t ts hx ht
          have hx' : ca = #[x, y] := by rw [← Array.toList_inj, hx]
          subst hx'
          exact out_delete hΘ hS hE ho ht h
        · exact h.elim
      | _ => exact h.elim
  | _ => rw [ho] at h; exact h.elim
end
end Go.DL
