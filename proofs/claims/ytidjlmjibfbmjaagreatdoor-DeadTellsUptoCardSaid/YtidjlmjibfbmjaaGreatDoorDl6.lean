/- Soundness of append. -/
import Derived.Test.YtidjlmjibfbmjaaGreatDoorDl5
namespace Go.DL
open Go.RowKit

section
variable {P : Program} {G : Nat → Prop} {wb : World} {ρ : List Loc} {H : List Ob} {w : World}
/-- the cells of rows, as one list of values -/
theorem RVrows.flat {g : Nat → Prop} {es : Nat} : ∀ {els : List (List A)} {blk off : Nat}, RVrows ρ H g w es els blk off →
    ∃ vs : List Value, vs.length = els.length * es ∧ (∀ j u, vs[j]? = some u → w.cell? ⟨blk, off + j, none⟩ = some u) ∧ (∀ v ∈ vs, v.oneCell' = true) ∧
      ∀ (i : Nat) (row : List A), els[i]? = some row → ∀ (j : Nat) (x : A), row[j]? = some x → ∃ u, vs[i * es + j]? = some u ∧ x.one = true ∧ RV ρ H g w x u
  | [], _, _, _ => ⟨[], by simp, by simp, by simp, by simp⟩
  | r :: rs, blk, off, h => by
    simp only [RVrows] at h
    obtain ⟨hl, hr, hrs⟩ := h
    obtain ⟨us, u1, u2⟩ := hr.vals
    obtain ⟨vs, v1, v2, v3, v4⟩ := hrs.flat
    have hul : us.length = es := by rw [u1.length, hl]
    refine ⟨us ++ vs, by simp [hul, v1, Nat.add_mul]; omega, ?_, ?_, ?_⟩
    · intro j u hu
      rw [List.getElem?_append] at hu
      split at hu
      · exact u2 j u hu
      · have := v2 _ u hu
        rw [show off + es + (j - us.length) = off + j by omega] at this
        exact this
    · intro v hv
      rcases List.mem_append.1 hv with hv | hv
      · obtain ⟨j, hj⟩ := List.mem_iff_getElem?.1 hv
        have hjl : j < r.length := by
          have := (List.getElem?_eq_some_iff.1 hj).1
          omega
        obtain ⟨ho, u, hu, hxu⟩ := RVcells_iff.1 hr j r[j] (by simp)
        have h1 := u2 j v hj
        rw [hu] at h1
        cases h1
        exact hxu.oneCell ho
      · exact v3 v hv
    · intro i row hrow j x hx
      cases i with
      | zero =>
        simp at hrow
        subst hrow
        obtain ⟨u, hu, hxu⟩ := u1.get hx
        refine ⟨u, ?_, (RVcells_iff.1 hr j x hx).1, hxu⟩
        rw [Nat.zero_mul, Nat.zero_add, List.getElem?_append_left]
        · exact hu
        · rcases Nat.lt_or_ge j us.length with h' | h'
          · exact h'
          · rw [List.getElem?_eq_none h'] at hu; cases hu
      | succ i =>
        obtain ⟨u, hu, hxu⟩ := v4 i row (by simpa using hrow) j x hx
        refine ⟨u, ?_, hxu⟩
        rw [List.getElem?_append_right (by rw [hul, Nat.add_mul]; omega), hul, Nat.add_mul]
        rw [← hu]
        congr 1
        omega

/-- a slice whose rows are known -/
def SrcOk (ρ : List Loc) (H : List Ob) (g : Nat → Prop) (w : World) (ys : List (List A)) (v : Value) : Prop :=
  ∃ a c, v = .slice a ys.length c ∧ (ys = [] ∨ ∃ es blk off, a = some ⟨blk, off, none⟩ ∧ RVrows ρ H g w es ys blk off)
theorem rowsK_out (hS : SimH G wb ρ H w) {y : A} {v : Value} (hy : RV ρ H (gd G ρ H) w y v) {K : List (List A) → Prop} (h : rowsK y H K) : ∃ ys, K ys ∧ SrcOk ρ H (gd G ρ H) w ys v := by
  cases y with
  | d yd =>
    cases yd with
    | sl ys =>
      simp only [RV, RD] at hy
      obtain ⟨a, c, es, rfl, h1, h2, h3, h4⟩ := hy
      refine ⟨_, h, a, c, by simp, ?_⟩
      rcases h4 with rfl | ⟨blk, off, rfl, hb, hr⟩
      · exact .inl rfl
      · exact .inr ⟨es, blk, off, rfl, hr.toV⟩
    | _ => exact h.elim
  | es =>
    simp only [RV] at hy
    obtain ⟨a, rfl⟩ := hy
    exact ⟨[], h, a, 0, rfl, .inl rfl⟩
  | vs o gn off =>
    obtain ⟨ob, hob, h1⟩ := getO_out _ _ _ h
    cases ob with
    | vec g' es els =>
      obtain ⟨e, h2⟩ := h1
      subst e
      rw [dropN_eq] at h2
      simp only [RV] at hy
      obtain ⟨_, hy2⟩ := hy.2.2 _ _ _ hob
      obtain ⟨l, a0, hl, hoff, rfl, ha⟩ := hy2 rfl
      have hok := hS.ok _ _ _ hl hob
      simp only [ObOk] at hok
      refine ⟨_, h2, a0, l.cap - off, by simp, ?_⟩
      by_cases hlt : off < els.length
      · exact .inr ⟨es, l.blk, l.off + off * es, ha (by have := hok.1; omega), hok.2.2.2.2.drop off⟩
      · exact .inl (List.drop_eq_nil_of_le (by omega))
    | _ => exact h1.elim
  | _ => exact h.elim

/-- what is appended: its cells -/
theorem src_cells {g : Nat → Prop} {ys : List (List A)} {v : Value} (h : SrcOk ρ H g w ys v) {size : Nat} (hys : ∀ r ∈ ys, r.length = size) :
    ∃ (sa : Option Addr) (sc : Nat) (vs : List Value), v = .slice sa ys.length sc ∧ vs.length = ys.length * size ∧ (Builtin.firstCells size ys.length v).run P w = .ok vs.toArray w ∧
      (ys ≠ [] → ∃ ad, sa = some ad ∧ ∀ j u, vs[j]? = some u → w.cell? (ad.add j) = some u) ∧ (∀ v ∈ vs, v.oneCell' = true) ∧
      ∀ (i : Nat) (row : List A), ys[i]? = some row → ∀ (j : Nat) (x : A), row[j]? = some x → ∃ u, vs[i * size + j]? = some u ∧ x.one = true ∧ RV ρ H g w x u := by
  obtain ⟨a, c, rfl, h4⟩ := h
  by_cases hn : ys = []
  · subst hn
    refine ⟨a, c, [], rfl, by simp, ?_, by simp, by simp, by simp⟩
    cases a with
    | none => simp [Builtin.firstCells]
    | some ad => simpa using run_firstCells_some (P := P) w size 0 ad 0 c [] (by simp) (by simp)
  · rcases h4 with h4 | ⟨es, blk, off, rfl, hr⟩
    · exact absurd h4 hn
    · have hes : es = size := by
        cases ys with
        | nil => exact absurd rfl hn
        | cons r rs =>
          simp only [RVrows] at hr
          rw [← hr.1]
          exact hys r (by simp)
      subst hes
      obtain ⟨vs, v1, v2, v3, v4⟩ := hr.flat
      have hc : ∀ j u, vs[j]? = some u → w.cell? ((⟨blk, off, none⟩ : Addr).add j) = some u := by
        intro j u hu
        rw [add_off]
        exact v2 j u hu
      exact ⟨_, c, vs, rfl, v1, run_firstCells_some (P := P) w es ys.length _ ys.length c vs v1 hc, fun _ => ⟨_, rfl, hc⟩, v3, v4⟩

theorem run_append_in {t ty e : TypeId} {i : TypeInfo} (ht : P.underlying t = some (.slice e)) (hi : P.info? e = some i) {g o n c m : Nat} {cur : Array Value} {T : TypeId} (hg : w.heap[g]? = some (.cells cur T (0, 0)))
    {src : Value} {news : List Value} (hlen : ∃ sa sc, src = .slice sa m sc) (hf : (Builtin.firstCells i.size m src).run P w = .ok news.toArray w) (h1 : ∀ u ∈ news, u.oneCell' = true)
    (hroom : n + m ≤ c) (hfit : o + n * i.size + news.length ≤ cur.size) :
    (Builtin.append_ #[t, t] ty #[.slice (some ⟨g, o, none⟩) n c, src]).run P w =
      .ok (.slice (some ⟨g, o, none⟩) (n + m) c) (w.setRow g (cur.toList.take (o + n * i.size) ++ news ++ cur.toList.drop (o + n * i.size + news.length)).toArray) := by
  obtain ⟨sa, sc, rfl⟩ := hlen
  have hst := run_storeCells_at P g (o + n * i.size) T news 0 cur w hg (by simpa using hfit) h1
  simp only [Nat.add_zero] at hst
  simp [Builtin.append_, run_underlying ht, sizeOf, typeInfo, hi, Builtin.lenOf, hroom, hf, add_off, hst]
theorem run_append_none {t ty e : TypeId} {i : TypeInfo} (ht : P.underlying t = some (.slice e)) (hi : P.info? e = some i) {a : Option Addr} {src : Value}
    (hlen : ∃ sa sc, src = .slice sa 0 sc) (hf : (Builtin.firstCells i.size 0 src).run P w = .ok #[] w) :
    (Builtin.append_ #[t, t] ty #[.slice a 0 0, src]).run P w = .ok (.slice a 0 0) w := by
  obtain ⟨sa, sc, rfl⟩ := hlen
  cases a <;> simp [Builtin.append_, run_underlying ht, sizeOf, typeInfo, hi, Builtin.lenOf, hf, storeCells]

theorem run_append_out {t ty e : TypeId} {i : TypeInfo} {z : Value} (ht : P.underlying t = some (.slice e)) (hi : P.info? e = some i) (hz : i.zero = some z) (hzs : z.cells.size = i.size)
    {a : Option Addr} {n c m : Nat} {olds : List Value} (hlo : olds.length = n * i.size) (holds : ∀ b, a = some b → ∀ j v, olds[j]? = some v → w.cell? (b.add j) = some v) (hnone : a = none → n = 0 ∧ c = 0)
    {src : Value} {news : List Value} (hlen : ∃ ad sc, src = .slice (some ad) m sc ∧ ∀ j v, news[j]? = some v → w.cell? (ad.add j) = some v) (hl : news.length = m * i.size)
    (hg : c < n + m) (h63 : n + m ≤ maxLen) (hb : (n + m) * i.bytes ≤ 140737488355328) :
    ∃ (cap' : Nat) (rest : List Value), n + m ≤ cap' ∧ cap' ≤ maxLen ∧ (olds ++ news ++ rest).length = cap' * i.size ∧
      (Builtin.append_ #[t, t] ty #[.slice a n c, src]).run P w = .ok (.slice (some ⟨w.heap.size, 0, none⟩) (n + m) cap') (w.drew.alloc (.cells (olds ++ news ++ rest).toArray e)) := by
  obtain ⟨ad, sc, rfl, hnews⟩ := hlen
  have hsmall : ((n + m : Nat) : Int) ≤ 9223372036854775807 := by simp only [maxLen] at h63; omega
  have hge := grownCap_ge w (n + m) c e
  refine ⟨grownCap w (n + m) c e, (Builtin.zeroCells z.cells (grownCap w (n + m) c e - (n + m))).toList, hge, grownCap_le_maxLen w (n + m) c e h63, ?_, ?_⟩
  · simp only [List.length_append, Array.length_toList, size_zeroCells, hzs, hlo, hl, ← Nat.add_mul]
    congr 1
    omega
  · cases a with
    | some b =>
      rw [run_append_grow (P := P) w t ty e i z ht hi hz b n c olds hlo (holds b rfl) ad m sc news hl hnews hg hsmall (growslice_fits hg hb)]
      congr 3
      apply Array.ext'
      simp
    | none =>
      obtain ⟨rfl, rfl⟩ := hnone rfl
      have hx : olds = [] := List.eq_nil_of_length_eq_zero (by simpa using hlo)
      subst hx
      have hm : 0 < m := by omega
      have hb' : m * i.bytes ≤ 281474976710656 := by have := hb; simp only [Nat.zero_add] at this; omega
      have hsm : (m : Int) ≤ 9223372036854775807 := by simpa using hsmall
      rw [run_append_nil (P := P) w t ty e i z ht hi hz ad m sc news hl hnews hm hsm hb']
      simp only [Nat.zero_add, List.nil_append]
      congr 3
      apply Array.ext'
      simp

/-- rows that lie one behind the other in one list of cells -/
theorem rows_append {g : Nat → Prop} {es : Nat} {xs ys : List (List A)} {us vs rest : List Value} (hul : us.length = xs.length * es)
    (hx : ∀ (i : Nat) (row : List A), xs[i]? = some row → ∀ (j : Nat) (x : A), row[j]? = some x → ∃ u, us[i * es + j]? = some u ∧ x.one = true ∧ RV ρ H g w x u)
    (hy : ∀ (i : Nat) (row : List A), ys[i]? = some row → ∀ (j : Nat) (x : A), row[j]? = some x → ∃ u, vs[i * es + j]? = some u ∧ x.one = true ∧ RV ρ H g w x u) :
    ∀ (i : Nat) (row : List A), (xs ++ ys)[i]? = some row → ∀ (j : Nat) (x : A), row[j]? = some x → ∃ u, (us ++ vs ++ rest)[i * es + j]? = some u ∧ x.one = true ∧ RV ρ H g w x u := by
  have hlt : ∀ {l : List Value} {k : Nat} {u : Value}, l[k]? = some u → k < l.length := by
    intro l k u h
    rcases Nat.lt_or_ge k l.length with h' | h'
    · exact h'
    · rw [List.getElem?_eq_none h'] at h; cases h
  intro i row hr j x hxx
  rw [List.getElem?_append] at hr
  split at hr
  · obtain ⟨u, hu, hxu⟩ := hx i row hr j x hxx
    refine ⟨u, ?_, hxu⟩
    have := hlt hu
    rw [List.append_assoc, List.getElem?_append_left this]
    exact hu
  · rename_i hge
    obtain ⟨u, hu, hxu⟩ := hy _ row hr j x hxx
    refine ⟨u, ?_, hxu⟩
    have h2 := hlt hu
    have e : i * es + j = xs.length * es + ((i - xs.length) * es + j) := by
      have : i = xs.length + (i - xs.length) := by omega
      conv => lhs; rw [this]
      rw [Nat.add_mul]
      omega
    rw [e, ← hul, List.append_assoc, List.getElem?_append_right (by omega), List.getElem?_append_left (by omega)]
    rw [← hu]
    congr 1
    omega

variable {K : A → List Ob → Prop}
theorem out_append (hS : SimH G wb ρ H w) {xv yv : Value} {x y : A} {t ty e : Nat} {te : TI} (ht : P.underlying t = some (.slice e)) (hte : TIok P e te) (hsz : 0 < te.size) (hby : 0 < te.bytes)
    (hx : RV ρ H (gd G ρ H) w x xv) (hy : RV ρ H (gd G ρ H) w y yv) (h : appD te x y H K) :
    ∃ v w', (Builtin.append_ #[t, t] ty #[xv, yv]).run P w = .ok v w' ∧ OpRes G wb ρ H w K v w' := by
  obtain ⟨i, z, e1, e2, e3, e4, e5, e6, e7⟩ := hte.info
  unfold appD at h
  obtain ⟨ys, h1, r1⟩ := rowsK_out hS hy h
  clear h
  · cases x with
    | es =>
      obtain ⟨hys, hbound, h2⟩ := h1
      have h2 := snocK_out _ _ _ (lenK_out _ _ _ h2)
      rw [Nat.zero_add] at h2
      obtain ⟨sa, sc, news, rfl, n1, n2, n3, n4, n5⟩ := src_cells (P := P) r1 hys
      simp only [RV] at hx
      obtain ⟨a0, rfl⟩ := hx
      by_cases hm : ys.length = 0
      · have hnil : ys = [] := List.eq_nil_of_length_eq_zero hm
        subst hnil
        have hn : news = [] := List.eq_nil_of_length_eq_zero (by simpa using n1)
        subst hn
        refine ⟨_, w, run_append_none ht e1 ⟨_, _, rfl⟩ (by rw [e2]; simpa using n2), ?_⟩
        have hno : ¬ (Ob.vec 0 te.size []).owns ⟨0, 0, 0⟩ := Nat.lt_irrefl 0
        have hs := step_push (w' := w) hS ⟨0, 0, 0⟩ (.vec 0 te.size []) rfl rfl rfl (Nat.le_refl _) (fun _ _ => rfl) (fun h => absurd h hno)
        refine ⟨_, ρ ++ [⟨0, 0, 0⟩], _, h2, sim_push hS _ _ rfl rfl rfl (Nat.le_refl _) (fun _ _ => rfl) (fun h => absurd h hno) ?_, ?_, hs⟩
        · simp only [ObOk]
          exact ⟨by simp, by simp [maxLen], hsz, fun h => absurd h (Nat.lt_irrefl 0), by simp [RVrows]⟩
        · simp only [RV]
          refine ⟨⟨_, _, _, rfl⟩, by simp, fun gc es' els' hc => ?_⟩
          rw [getElem?_snoc, if_neg (by omega), if_pos rfl] at hc
          cases hc
          refine ⟨Nat.le_refl _, fun _ => ⟨⟨0, 0, 0⟩, a0, ?_, Nat.zero_le _, by simp, fun h => absurd h (Nat.lt_irrefl 0)⟩⟩
          rw [getElem?_snoc, hS.len, if_neg (by omega), if_pos rfl]
      · have hne : ys ≠ [] := fun e => hm (by simp [e])
        obtain ⟨ad, rfl, hnews⟩ := n3 hne
        have hb : (0 + ys.length) * i.bytes ≤ 140737488355328 := by rw [Nat.zero_add, e3]; exact hbound
        have h63 : 0 + ys.length ≤ maxLen := by
          have : ys.length * 1 ≤ ys.length * te.bytes := Nat.mul_le_mul_left _ hby
          simp only [maxLen]
          omega
        obtain ⟨cap', rest, c1, c2, c3, c4⟩ := run_append_out (P := P) (w := w) (ty := ty) (a := a0) (n := 0) (c := 0) (olds := []) (m := ys.length) (news := news) (src := .slice (some ad) ys.length sc) ht e1 e4 (by rw [e5, e2]) (by simp) (by simp) (fun _ => ⟨rfl, rfl⟩)
          ⟨ad, sc, rfl, hnews⟩ (by rw [e2]; exact n1) (by omega) h63 hb
        simp only [Nat.zero_add, List.nil_append] at c1 c3 c4
        refine ⟨_, _, c4, ?_⟩
        have := new_vec (K := K) (w' := w.drew.alloc (.cells (news ++ rest).toArray e)) (cap := cap') (es := te.size) (rows := ys) hS rfl rfl rfl (by simp) (fun b hb => heap_alloc_lt w.drew _ b hb) (heap_alloc_new w.drew _)
          (by rw [List.size_toArray, c3, e2]; exact Nat.le_refl _) c1 c2 hsz (fun ii row hr => ⟨hys row (List.mem_of_getElem? hr), fun j x hxx => ?_⟩) h2
        · obtain ⟨xx, ρ2, H2, k1, k2, k3, k4⟩ := this
          exact ⟨xx, ρ2, H2, k1, k2, k3, k4⟩
        · have := rows_append (ρ := ρ) (H := H) (g := gd G ρ H) (w := w) (es := te.size) (xs := []) (ys := ys) (us := []) (vs := news) (rest := rest) (by simp) (by simp) n5 ii row (by simpa using hr) j x hxx
          obtain ⟨u, hu, ho1, hxu⟩ := this
          exact ⟨ho1, u, by simpa using hu, hxu⟩
    | vs o gn off =>
      obtain ⟨ob, hob, h2⟩ := getO_out _ _ _ h1
      cases ob with
      | vec g' es els =>
        obtain ⟨eg, hes, hys, hbound, h2⟩ := h2
        subst eg
        subst hes
        have h2 := setK_out _ _ _ _ h2
        rw [dropN_eq] at hbound h2
        obtain ⟨sa, sc, news, rfl, n1, n2, n3, n4, n5⟩ := src_cells (P := P) r1 hys
        simp only [RV] at hx
        obtain ⟨_, hx2⟩ := hx.2.2 _ _ _ hob
        obtain ⟨l, a0, hl, hoff, rfl, ha⟩ := hx2 rfl
        clear hx hx2
        have hok := hS.ok _ _ _ hl hob
        simp only [ObOk] at hok
        obtain ⟨k1, k2, _, k4, k5⟩ := hok
        have hdl : (els.drop off).length = els.length - off := by simp
        have hrd := k5.drop off
        obtain ⟨olds, o1, o2, o3, o4⟩ := hrd.flat
        have ht' : ∀ l', Turns (.vec gn te.size els) (.vec (gn + 1) te.size (els.drop off ++ ys)) l l' := fun l' => .inr ⟨gn + 1, _, rfl, by omega, fun h => absurd h (by omega)⟩
        have hoH : o < H.length := by
          rcases Nat.lt_or_ge o H.length with h' | h'
          · exact h'
          · rw [List.getElem?_eq_none h'] at hob; cases hob
        have fin : ∀ (l' : Loc) (v : Value) (w' : World), SimH G wb (ρ.set o l') (H.set o (.vec (gn + 1) te.size (els.drop off ++ ys))) w' → Step ρ H w (ρ.set o l') (H.set o (.vec (gn + 1) te.size (els.drop off ++ ys))) w' →
            (∃ aa, v = .slice aa ((els.length - off) + ys.length) l'.cap ∧ (0 < l'.cap → aa = some ⟨l'.blk, l'.off, none⟩)) → OpRes G wb ρ H w K v w' := by
          intro l' v w' hs ht hv
          refine ⟨_, _, _, h2, hs, ?_, ht⟩
          obtain ⟨aa, rfl, haa⟩ := hv
          simp only [RV]
          refine ⟨⟨_, _, _, rfl⟩, by simpa using hoH, fun gc es' els' hc => ?_⟩
          rw [List.getElem?_set_self hoH] at hc
          cases hc
          refine ⟨Nat.le_refl _, fun _ => ⟨l', aa, by rw [List.getElem?_set_self (by rw [hS.len]; exact hoH)], Nat.zero_le _, by simp, fun h => ?_⟩⟩
          rw [haa h]
          simp
        by_cases hroom : (els.length - off) + ys.length ≤ l.cap - off
        · by_cases hc0 : l.cap - off = 0
          · have hn0 : els.length - off = 0 := by omega
            have hm0 : ys.length = 0 := by omega
            have hnil : ys = [] := List.eq_nil_of_length_eq_zero hm0
            subst hnil
            have hn : news = [] := List.eq_nil_of_length_eq_zero (by simpa using n1)
            subst hn
            rw [hc0, hn0]
            refine ⟨_, w, run_append_none ht e1 ⟨_, _, rfl⟩ (by rw [e2]; simpa using n2), fin ⟨0, 0, 0⟩ _ w ?_ ?_ ⟨a0, by simp [hn0], fun h => absurd h (Nat.lt_irrefl 0)⟩⟩
            · refine sim_set hS hl hob rfl rfl rfl (Nat.le_refl _) (fun _ _ _ => rfl) (ht' _) (fun h => absurd h (Nat.lt_irrefl 0)) ?_
              simp only [ObOk]
              have hd0 : els.drop off = [] := List.eq_nil_of_length_eq_zero (by omega)
              rw [hd0]
              exact ⟨by simp, by simp [maxLen], hsz, fun h => absurd h (Nat.lt_irrefl 0), by simp [RVrows]⟩
            · exact step_set hS hl hob rfl rfl rfl (Nat.le_refl _) (fun _ _ _ => rfl) (ht' _) (fun h => absurd h (Nat.lt_irrefl 0))
          · obtain rfl := ha (by omega)
            obtain ⟨cur, T, hh, hcs⟩ := k4 (by omega)
            have hle : (off + ((els.length - off) + ys.length)) * te.size ≤ l.cap * te.size := Nat.mul_le_mul_right _ (by omega)
            rw [Nat.add_mul, Nat.add_mul] at hle
            have hfit : l.off + off * te.size + (els.length - off) * i.size + news.length ≤ cur.size := by rw [e2, n1]; omega
            have hr := run_append_in (ty := ty) ht e1 hh (m := ys.length) (c := l.cap - off) (n := els.length - off) (src := .slice sa ys.length sc) ⟨_, _, rfl⟩ (by rw [e2]; exact n2) n4 hroom hfit
            rw [e2] at hr hfit
            have hseg := cell_seg hh (l.off + off * te.size + (els.length - off) * te.size) news hfit
            have hown : (Ob.vec gn te.size els).owns l := show 0 < l.cap by omega
            refine ⟨_, _, hr, ?_⟩
            have hst := step_set (w' := w.setRow l.blk (cur.toList.take (l.off + off * te.size + (els.length - off) * te.size) ++ news ++ cur.toList.drop (l.off + off * te.size + (els.length - off) * te.size + news.length)).toArray)
              (l' := ⟨l.blk, l.off + off * te.size, l.cap - off⟩) hS hl hob rfl rfl rfl (by simp) (fun b _ hb => setRow_other w l.blk b _ (hb hown)) (ht' _) (fun _ => .inl ⟨rfl, hown⟩)
            refine fin ⟨l.blk, l.off + off * te.size, l.cap - off⟩ _ _ ?_ hst ⟨_, rfl, fun _ => rfl⟩
            refine sim_set hS hl hob rfl rfl rfl (by simp) (fun b _ hb => setRow_other w l.blk b _ (hb hown)) (ht' _) (fun _ => .inl ⟨rfl, hown⟩) ?_
            simp only [ObOk]
            refine ⟨by simp; omega, by omega, hsz, fun _ => ⟨_, T, setRow_heap w l.blk cur _ T (0, 0) hh, ?_⟩, ?_⟩
            · simp only [List.size_toArray, List.length_append, List.length_take, List.length_drop, Array.length_toList]
              have : (off + (l.cap - off)) * te.size ≤ l.cap * te.size := Nat.mul_le_mul_right _ (by omega)
              rw [Nat.add_mul] at this
              omega
            · refine RVrows.append ?_ ?_
              · rw [RVrows_iff] at hrd ⊢
                intro ii row hr
                obtain ⟨hl1, hr1⟩ := hrd ii row hr
                refine ⟨hl1, ?_⟩
                rw [RVcells_iff] at hr1 ⊢
                intro j x hxx
                obtain ⟨ho1, u, hu, hxu⟩ := hr1 j x hxx
                refine ⟨ho1, u, ?_, hst.rv hS.len hxu⟩
                rw [hseg, if_neg]
                · exact hu
                · rintro ⟨q1, _⟩
                  have hii : ii < els.length - off := by
                    rcases Nat.lt_or_ge ii (els.drop off).length with h' | h'
                    · omega
                    · rw [List.getElem?_eq_none h'] at hr; cases hr
                  have hj : j < te.size := by
                    rcases Nat.lt_or_ge j row.length with h' | h'
                    · omega
                    · rw [List.getElem?_eq_none h'] at hxx; cases hxx
                  have : (ii + 1) * te.size ≤ (els.length - off) * te.size := Nat.mul_le_mul_right _ hii
                  rw [Nat.add_mul] at this
                  omega
              · rw [hdl, RVrows_iff]
                intro ii row hr
                refine ⟨hys row (List.mem_of_getElem? hr), ?_⟩
                rw [RVcells_iff]
                intro j x hxx
                obtain ⟨u, hu, ho1, hxu⟩ := n5 ii row hr j x hxx
                refine ⟨ho1, u, ?_, hst.rv hS.len hxu⟩
                have hlt : ii * te.size + j < news.length := by
                  rcases Nat.lt_or_ge (ii * te.size + j) news.length with h' | h'
                  · exact h'
                  · rw [List.getElem?_eq_none h'] at hu; cases hu
                rw [hseg, if_pos (by omega)]
                rw [← hu]
                congr 1
                omega
        · have hm : 0 < ys.length := by omega
          have hne : ys ≠ [] := fun e => by subst e; simp at hm
          obtain ⟨ad, rfl, hnews⟩ := n3 hne
          have hb : (els.length - off + ys.length) * i.bytes ≤ 140737488355328 := by rw [e3, ← hdl]; exact hbound
          have h63 : els.length - off + ys.length ≤ maxLen := by
            have : (els.length - off + ys.length) * 1 ≤ (els.length - off + ys.length) * i.bytes := Nat.mul_le_mul_left _ (by rw [e3]; exact hby)
            simp only [maxLen]
            omega
          obtain ⟨cap', rest, c1, c2, c3, c4⟩ := run_append_out (P := P) (w := w) (ty := ty) (a := a0) (n := els.length - off) (c := l.cap - off) (olds := olds) (m := ys.length) (news := news) (src := .slice (some ad) ys.length sc) ht e1 e4 (by rw [e5, e2]) (by rw [o1, hdl, e2])
            (fun b hb j v hv => by
              by_cases hc0 : off < l.cap
              · rw [ha hc0] at hb
                cases hb
                rw [add_off]
                exact o2 j v hv
              · have : olds.length = 0 := by rw [o1, hdl, show els.length - off = 0 by omega, Nat.zero_mul]
                rw [List.eq_nil_of_length_eq_zero this] at hv
                simp at hv)
            (fun hn => by
              by_cases hc0 : off < l.cap
              · rw [ha hc0] at hn; cases hn
              · omega)
            ⟨ad, sc, rfl, hnews⟩ (by rw [e2]; exact n1) (by omega) h63 hb
          refine ⟨_, _, c4, ?_⟩
          have hst := step_set (w' := w.drew.alloc (.cells (olds ++ news ++ rest).toArray e)) (l' := ⟨w.heap.size, 0, cap'⟩) hS hl hob rfl rfl rfl (by simp) (fun b hb _ => heap_alloc_lt w.drew _ b hb) (ht' _) (fun _ => .inr ⟨Nat.le_refl _, by simp⟩)
          refine fin ⟨w.heap.size, 0, cap'⟩ _ _ ?_ hst ⟨_, rfl, fun _ => rfl⟩
          refine sim_set hS hl hob rfl rfl rfl (by simp) (fun b hb _ => heap_alloc_lt w.drew _ b hb) (ht' _) (fun _ => .inr ⟨Nat.le_refl _, by simp⟩) ?_
          simp only [ObOk]
          have hnew : (w.drew.alloc (.cells (olds ++ news ++ rest).toArray e)).heap[w.heap.size]? = some (.cells (olds ++ news ++ rest).toArray e) := heap_alloc_new w.drew (.cells (olds ++ news ++ rest).toArray e)
          refine ⟨by simp; omega, c2, hsz, fun _ => ⟨_, e, hnew, ?_⟩, ?_⟩
          · rw [List.size_toArray, c3, e2]; omega
          · rw [RVrows_iff]
            intro ii row hr
            have hrl : row.length = te.size := by
              rw [List.getElem?_append] at hr
              split at hr
              · exact (hrd.get hr).1
              · exact hys row (List.mem_of_getElem? hr)
            refine ⟨hrl, ?_⟩
            rw [RVcells_iff]
            intro j x hxx
            obtain ⟨u, hu, ho1, hxu⟩ := rows_append (ρ := ρ) (H := H) (g := gd G ρ H) (w := w) (es := te.size) (xs := els.drop off) (ys := ys) (us := olds) (vs := news) (rest := rest) o1 o4 n5 ii row hr j x hxx
            refine ⟨ho1, u, ?_, hst.rv hS.len hxu⟩
            rw [cell_of_row _ _ _ _ _ _ hnew]
            simpa using hu
      | _ => exact h2.elim
    | _ => exact h1.elim
end
end Go.DL
