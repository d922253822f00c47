/- Contracts: the functions inside the program's Needed. -/
import Derived.Test.YtidjlmjibfbmjaaGreatDoorDf11
namespace Go.DL
open Go.RowKit
def mkM (ks : List Int) : List (Int × A) := ks.map fun k => (k, .d (.b true))
theorem mkM_get (ks : List Int) (k : Int) : mapGet (mkM ks) k = if k ∈ ks then some (.d (.b true)) else none := by
  unfold mapGet mkM
  induction ks with
  | nil => simp
  | cons x xs ih =>
    rw [List.map_cons, List.find?_cons]
    by_cases h : x = k
    · subst h; simp
    · have h2 : (x == k) = false := by simpa using h
      have h3 : ¬ k = x := fun e => h e.symm
      simp only [h2, List.mem_cons, h3, false_or]
      exact ih
theorem mkM_del (ks : List Int) (k : Int) : mapDel (mkM ks) k = mkM (ks.erase k) := by
  unfold mkM
  induction ks with
  | nil => rfl
  | cons x xs ih =>
    simp only [List.map_cons, mapDel, List.erase_cons]
    by_cases h : x = k
    · subst h; simp
    · have h2 : (x == k) = false := by simpa using h
      rw [if_neg h, ih, h2]
      simp
theorem mkM_put (ks : List Int) (k : Int) (h : k ∉ ks) : mapPut (mkM ks) k (.d (.b true)) = mkM (ks ++ [k]) := by
  unfold mkM
  induction ks with
  | nil => rfl
  | cons x xs ih =>
    simp only [List.mem_cons, not_or] at h
    simp only [List.map_cons, mapPut, List.cons_append]
    rw [if_neg (fun e => h.1 e.symm), ih h.2]
theorem mkM_refs (n : Nat) : ∀ ks : List Int, refsE n (mkM ks) = true
  | [] => rfl
  | k :: ks => by
    have := mkM_refs n ks
    simp only [mkM, List.map_cons, refsE] at this ⊢
    rw [this]
    rfl
/-- the values that are not needed yet, in order -/
def spareN (out : List Bool) : List Nat := (List.range out.length).filter fun v => out[v]? == some false
def spareL (out : List Bool) : List Int := (spareN out).map fun (v : Nat) => (v : Int)
theorem spare_mem {out : List Bool} {v : Int} : v ∈ spareL out ↔ 0 ≤ v ∧ out[v.toNat]? = some false := by
  unfold spareL spareN
  rw [List.mem_map]
  constructor
  · rintro ⟨a, ha, rfl⟩
    rw [List.mem_filter] at ha
    exact ⟨Int.natCast_nonneg a, by simpa using ha.2⟩
  · rintro ⟨h0, h1⟩
    refine ⟨v.toNat, List.mem_filter.2 ⟨?_, by simpa using h1⟩, Int.toNat_of_nonneg h0⟩
    exact List.mem_range.2 (List.getElem?_eq_some_iff.1 h1).1
theorem spareN_set {out : List Bool} {v : Nat} (h : out[v]? = some false) : spareN (out.set v true) = (spareN out).erase v := by
  unfold spareN
  have hn : ((List.range out.length).filter fun u => out[u]? == some false).Nodup := List.Pairwise.filter _ List.nodup_range
  rw [hn.erase_eq_filter, List.filter_filter, List.length_set]
  apply List.filter_congr
  intro u hu
  rw [List.getElem?_set]
  by_cases e : v = u
  · subst e
    have hlt := (List.getElem?_eq_some_iff.1 h).1
    simp [hlt]
  · have e2 : ¬ u = v := fun h => e h.symm
    simp [e, e2]
theorem map_erase_int (l : List Nat) (v : Nat) : (l.map fun (v : Nat) => (v : Int)).erase (v : Int) = (l.erase v).map fun (v : Nat) => (v : Int) := by
  induction l with
  | nil => rfl
  | cons x xs ih =>
    simp only [List.map_cons, List.erase_cons]
    by_cases e : x = v
    · subst e; simp
    · have e2 : ¬ ((x : Int) = (v : Int)) := by omega
      have e3 : (x == v) = false := by simpa using e
      have e4 : ((x : Int) == (v : Int)) = false := by simpa using e2
      rw [e3, e4]
      simp [ih]
theorem spare_mark (out : List Bool) (fr : Bool) (v : Int) : (spareL out).erase v = spareL (mark1 (out, fr) v).1 := by
  unfold mark1
  split
  · rename_i h
    obtain ⟨h0, h1, h2⟩ := h
    simp only at h1 h2 ⊢
    unfold spareL
    rw [spareN_set h2, ← map_erase_int, Int.toNat_of_nonneg h0]
  · rename_i h
    apply List.erase_of_not_mem
    intro hm
    obtain ⟨h0, h1⟩ := spare_mem.1 hm
    have := (List.getElem?_eq_some_iff.1 h1).1
    exact h ⟨h0, by simp only; omega, h1⟩
abbrev HH (f : Form) (out : List Bool) (X : List Ob) : List Ob := .box (mapD f.row) :: .map .i64 (mkM (spareL out)) :: .box [.mp 1] :: X
theorem HH_refs {f : Form} {out : List Bool} {X : List Ob} (hX : refsH (X.length + 3) X = true) : refsH (HH f out X).length (HH f out X) = true := by
  show refsH (X.length + 3) (HH f out X) = true
  refine refsH_cons rfl (refsH_cons (mkM_refs _ _) (refsH_cons rfl hX))
def restOk : List A → Bool
  | [] => true
  | .ptr .. :: xs => restOk xs
  | .d _ :: xs => restOk xs
  | _ :: _ => false
theorem frzsK_id : ∀ {xs : List A} {H : List Ob} {K : List A → List Ob → Prop}, restOk xs = true → K xs H → frzsK xs H K
  | [], _, _, _, hk => hk
  | .ptr .. :: xs, H, K, h, hk => by
    simp only [frzsK, frzK]
    exact frzsK_id (xs := xs) h hk
  | .d _ :: xs, H, K, h, hk => by
    simp only [frzsK, frzK]
    exact frzsK_id (xs := xs) h hk
/-- a vector that is handed over for good, ahead of plain arguments -/
theorem callOk_give {P : Program} {wb : World} {f o g es : Nat} {els : List (List A)} {rest : List A} {H : List Ob} {R : A → List Ob → Prop} (he : ∀ (args : Array Value) (w : World), (callFunc f args).run P w = .ok (.enter f args) w)
    (rows : List (List D)) (H' : List Ob) (hob : H[o]? = some (.vec g es els)) (hr : els = rows.map mapD) (hH : H.set o .gone = H') (hrest : restOk rest = true) (h : CallOk P wb f (.d (.sl rows) :: rest) H' R) : CallOk P wb f (.vs o g 0 :: rest) H R := by
  subst hH
  refine callOk_frzArgs he ?_
  simp only [frzsK, frzK, toDK]
  refine getO_in hob ⟨rfl, rows, by simpa [dropN] using hr, setK_in ?_⟩
  exact frzsK_id hrest h
def fnS : A := .fn 27 [] [.ptr 0 0, .ptr 2 0]
def onI (out : List Bool) (v : Int) : Bool := decide (0 ≤ v) && out.getD v.toNat false
section
variable {wb : World} {f : Form} {out : List Bool} {X : List Ob} {K : A → List Ob → Prop}
set_option maxRecDepth 100000 in
theorem ok27 (hl : out.length = f.vals.length) (v : Int) (hk : K (.d (.b (onI out v))) (HH f out X)) : CallOk Go.Proofs.Tryz.prog wb 27 [.d (.i .i64 v), .ptr 0 0, .ptr 2 0] (HH f out X) K := by
  refine callOk_intro Θok Go.Proofs.Tryz.func27 Go.Proofs.Tryz.call27 ?_
  conv => whnf
  refine brd (fun h => ?_) (fun h => ?_)
  · conv => whnf
    refine brd (fun h1 => ?_) (fun h1 => ?_)
    · conv => whnf
      have h1' : v.toNat < out.length := by simp at h1; omega
      refine ⟨_, rfl, ?_⟩
      rw [mkM_get]
      cases hb : out[v.toNat] with
      | true =>
        have hn : v ∉ spareL out := by
          intro hm
          have := (spare_mem.1 hm).2
          rw [List.getElem?_eq_getElem h1', hb] at this
          cases this
        rw [if_neg hn]
        conv => whnf
        have : onI out v = true := by unfold onI; simp [h, h1', hb]
        rw [this] at hk
        exact hk
      | false =>
        have hn : v ∈ spareL out := spare_mem.2 ⟨h, by rw [List.getElem?_eq_getElem h1', hb]⟩
        rw [if_pos hn]
        conv => whnf
        have : onI out v = false := by unfold onI; simp [h1', hb]
        rw [this] at hk
        exact hk
    · conv => whnf
      have : onI out v = false := by
        unfold onI
        have : out.length ≤ v.toNat := by simp at h1; omega
        simp [this]
      rw [this] at hk
      exact hk
  · conv => whnf
    have : onI out v = false := by unfold onI; simp [h]
    rw [this] at hk
    exact hk
theorem any_take (out : List Bool) (l : List Int) (i : Nat) (h : i < l.length) : (l.take (i + 1)).any (onI out) = ((l.take i).any (onI out) || onI out l[i]) := by
  rw [List.take_succ_eq_append_getElem h, List.any_append]
  simp
set_option maxRecDepth 100000 in
theorem ok51 (hl : out.length = f.vals.length) (hX : refsH (X.length + 3) X = true) (l : List Int) (hm : l.length ≤ maxLen) (hk : ∀ r : Int, decide (0 ≤ r) = l.any (onI out) → K (.d (.i .i64 r)) (HH f out X)) :
    CallOk Go.Proofs.Tryz.prog wb 51 [.d (il l), fnS] (HH f out X) K := by
  refine callOk_intro Θok Go.Proofs.Tryz.func51 Go.Proofs.Tryz.call51 ?_
  conv => whnf
  refine loop_tmpl Θok (fun i : Nat => [(8, .d (.i .i64 i))]) [0, 1, 6, 7] (fun _ => HH f out X) (fun i => i ≤ l.length ∧ (l.take i).any (onI out) = false) (fun i => l.length - i) 0 (Nat.le_refl _)
    (fun _ => ⟨rfl, HH_refs hX⟩) ?_ ?_
  · refine ⟨⟨Nat.zero_le _, rfl⟩, ?_⟩
    conv => whnf
    refine ⟨rfl, ?_⟩
    exact wkH_refl _
  · intro i ⟨hI, hA⟩ hH
    conv => whnf
    intro hE
    conv => whnf
    refine brd (fun h => ?_) (fun h => ?_)
    · have hi : i < l.length := by simpa using h
      have hst := any_take out l i hi
      rw [hA, Bool.false_or] at hst
      conv => whnf
      refine ⟨Int.natCast_nonneg i, _, row_at hi, rfl, ?_⟩
      conv => whnf
      refine ok27 hl _ ?_
      cases hb : onI out l[i] with
      | true =>
        conv => whnf
        refine hk _ ?_
        rw [hb] at hst
        have : l.any (onI out) = true := by
          rw [List.any_eq_true] at hst ⊢
          obtain ⟨x, hx, hp⟩ := hst
          exact ⟨x, List.mem_of_mem_take hx, hp⟩
        rw [this]
        simp
      | false =>
        rw [hb] at hst
        conv => whnf
        refine ⟨_, wrap_succ hi hm, ?_⟩
        conv => whnf
        refine ⟨i + 1, ⟨hi, hst⟩, Nat.sub_succ_lt_self _ _ hi, Nat.le_refl _, ?_⟩
        repeat
          conv => whnf
          refine ⟨rfl, ?_⟩
        exact wkH_refl _
    · conv => whnf
      refine hk _ ?_
      have : l.take i = l := List.take_of_length_le (by simpa using h)
      rw [this] at hA
      rw [hA]
      rfl
set_option maxRecDepth 100000 in
theorem ok25 (hl : out.length = f.vals.length) (hX : refsH (X.length + 3) X = true) (l : List Int) (hm : l.length ≤ maxLen) (ht : anyI out l = true → K (.d (.b true)) (HH f out X)) (hf : anyI out l = false → K (.d (.b false)) (HH f out X)) :
    CallOk Go.Proofs.Tryz.prog wb 25 [.d (il l), .ptr 0 0, .ptr 2 0] (HH f out X) K := by
  refine callOk_intro Θok Go.Proofs.Tryz.func25 Go.Proofs.Tryz.call25 ?_
  conv => whnf
  refine callOk_intro Θok Go.Proofs.Tryz.func26 Go.Proofs.Tryz.call26 ?_
  conv => whnf
  refine ok51 hl hX l hm fun r hr => ?_
  have e : anyI out l = decide (0 ≤ r) := by rw [hr]; rfl
  conv => whnf
  refine brd (fun h => ?_) (fun h => ?_)
  · conv => whnf
    exact ht (by rw [e, decide_eq_true h])
  · conv => whnf
    exact hf (by rw [e, decide_eq_false h])
set_option maxRecDepth 100000 in
theorem ok28 (hX : refsH (X.length + 3) X = true) (l : List Int) (hm : l.length ≤ maxLen) (hk : ∀ c, c = (markL out l).1 → K (.tup []) (HH f c X)) :
    CallOk Go.Proofs.Tryz.prog wb 28 [.d (il l), .ptr 2 0] (HH f out X) K := by
  refine callOk_intro Θok Go.Proofs.Tryz.func28 Go.Proofs.Tryz.call28 ?_
  conv => whnf
  refine loop_tmpl Θok (S := List Bool × Bool × Nat) (fun ⟨_, _, i⟩ => [(7, .d (.i .i64 i))]) [1, 5, 6] (fun ⟨o, _, _⟩ => HH f o X) (fun ⟨o, fr, i⟩ => i ≤ l.length ∧ markL out (l.take i) = (o, fr)) (fun ⟨_, _, i⟩ => l.length - i) (out, false, 0) (Nat.le_refl _)
    (fun ⟨o, _, _⟩ => ⟨rfl, HH_refs hX⟩) ?_ ?_
  · refine ⟨⟨Nat.zero_le _, rfl⟩, ?_⟩
    conv => whnf
    refine ⟨rfl, ?_⟩
    exact wkH_refl _
  · rintro ⟨o, fr, i⟩ ⟨hI, hA⟩ hH
    conv => whnf
    intro hE
    conv => whnf
    refine brd (fun h => ?_) (fun h => ?_)
    · have hi : i < l.length := by simpa using h
      have hst := markL_take out l i hi
      rw [hA] at hst
      conv => whnf
      refine ⟨Int.natCast_nonneg i, _, row_at hi, rfl, ?_⟩
      conv => whnf
      refine ⟨_, wrap_succ hi hm, ?_⟩
      conv => whnf
      refine ⟨((mark1 (o, fr) l[i]).1, (mark1 (o, fr) l[i]).2, i + 1), ⟨hi, hst⟩, Nat.sub_succ_lt_self _ _ hi, Nat.le_refl _, ?_⟩
      repeat
        conv => whnf
        refine ⟨rfl, ?_⟩
      refine ⟨.inr rfl, .inr ?_, .inr rfl, wkH_refl X⟩
      rw [mkM_del, spare_mark o fr]
    · conv => whnf
      have : l.take i = l := List.take_of_length_le (by simpa using h)
      rw [this] at hA
      exact hk o (by rw [hA])
end
end Go.DL
