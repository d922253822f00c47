/- Plain law: what a block needs grows with what is known to be needed. -/
import Derived.Test.YtidjlmjibfbmjaaGreatDoorDf6
namespace Go.DL
def Sub (S T : List Bool) : Prop := ∀ v, on S v → on T v
theorem getD_on {S : List Bool} {v : Nat} : S.getD v false = true ↔ on S v := by
  unfold on
  rw [List.getD_eq_getElem?_getD]
  cases S[v]? with
  | none => simp
  | some b => simp
theorem anyI_mono {S T : List Bool} (h : Sub S T) {l : List Int} (ha : anyI S l = true) : anyI T l = true := by
  unfold anyI at ha ⊢
  rw [List.any_eq_true] at ha ⊢
  obtain ⟨v, hv, hp⟩ := ha
  refine ⟨v, hv, ?_⟩
  simp only [Bool.and_eq_true] at hp ⊢
  exact ⟨hp.1, getD_on.2 (h _ (getD_on.1 hp.2))⟩
theorem keptL_mono {S T : List Bool} (h : Sub S T) {ps args : List Int} {v : Int} (hv : v ∈ keptL S ps args) : v ∈ keptL T ps args := by
  unfold keptL at hv ⊢
  obtain ⟨q, hq, he⟩ := List.mem_filterMap.1 hv
  refine List.mem_filterMap.2 ⟨q, hq, ?_⟩
  split at he
  · rename_i ha
    rw [if_pos (anyI_mono h ha)]
    exact he
  · cases he
theorem wantedL_mono {S T : List Bool} (h : Sub S T) {f : Form} {b : Blk} {v : Int} (hv : v ∈ wantedL f b S) : v ∈ wantedL f b T := by
  unfold wantedL at hv ⊢
  rw [List.mem_append, List.mem_append] at hv ⊢
  rcases hv with (hv | hv) | hv
  · left; left
    obtain ⟨x, hx, hm⟩ := List.mem_flatMap.1 hv
    refine List.mem_flatMap.2 ⟨x, hx, ?_⟩
    unfold insW at hm ⊢
    split at hm
    · rename_i hc
      rw [if_pos (hc.imp id (anyI_mono h))]
      exact hm
    · cases hm
  · left; right; exact hv
  · right
    obtain ⟨x, hx, hm⟩ := List.mem_flatMap.1 hv
    exact List.mem_flatMap.2 ⟨x, hx, keptL_mono h hm⟩

/-- a set of values that holds what its blocks want -/
structure NClosed (f : Form) (R : List Bool) (S : List Bool) : Prop where
  len : S.length = f.vals.length
  step : ∀ (b : Nat) (x : Blk), f.blocks[b]? = some x → on R b → ∀ v ∈ wantedL f x S, 0 ≤ v → v < S.length → on S v.toNat
open Classical in
noncomputable def neededL (f : Form) (R : List Bool) : List Bool := (List.range f.vals.length).map fun v => decide (∀ S, NClosed f R S → on S v)
open Classical in
theorem need_eq {f : Form} {R out : List Bool} (h : NClosed f R out) (hs : ∀ S, NClosed f R S → ∀ v, on out v → on S v) : out = neededL f R := by
  apply List.ext_getElem?
  intro v
  by_cases hv : v < f.vals.length
  · have hl : v < out.length := by rw [h.len]; exact hv
    rw [List.getElem?_eq_getElem hl]
    simp only [neededL, List.getElem?_map, List.getElem?_range hv, Option.map_some]
    congr 1
    by_cases hb : out[v] = true
    · have : on out v := by unfold on; rw [List.getElem?_eq_getElem hl, hb]
      rw [hb, decide_eq_true fun S hS => hs S hS v this]
    · have hb' : out[v] = false := by simpa using hb
      rw [hb', decide_eq_false]
      intro hall
      have := hall out h
      unfold on at this
      rw [List.getElem?_eq_getElem hl, hb'] at this
      cases this
  · rw [List.getElem?_eq_none (by rw [h.len]; omega), List.getElem?_eq_none (by simp [neededL]; omega)]

theorem mark1_sub (s : List Bool × Bool) (v : Int) : Sub s.1 (mark1 s v).1 := by
  intro u hu
  unfold mark1
  split
  · exact on_set_of hu
  · exact hu
theorem mark_sub : ∀ (l : List Int) (s : List Bool × Bool), Sub s.1 (l.foldl mark1 s).1
  | [], _ => fun _ h => h
  | v :: l, s => fun u hu => mark_sub l (mark1 s v) u (mark1_sub s v u hu)
theorem mark_sound : ∀ (l : List Int) (s : List Bool × Bool) (u : Nat), on (l.foldl mark1 s).1 u → on s.1 u ∨ ∃ v ∈ l, 0 ≤ v ∧ v < s.1.length ∧ u = v.toNat
  | [], _, _, h => .inl h
  | v :: l, s, u, h => by
    rcases mark_sound l (mark1 s v) u h with h | ⟨v', h1, h2, h3, h4⟩
    · unfold mark1 at h
      split at h
      · rename_i hc
        rcases on_set h with rfl | h
        · exact .inr ⟨v, by simp, hc.1, hc.2.1, rfl⟩
        · exact .inl h
      · exact .inl h
    · exact .inr ⟨v', by simp [h1], h2, by rw [mark1_len] at h3; exact h3, h4⟩
theorem mark_all : ∀ (l : List Int) (s : List Bool × Bool) (v : Int), v ∈ l → 0 ≤ v → v < s.1.length → on (l.foldl mark1 s).1 v.toNat
  | w :: l, s, v, hv, h0, h1 => by
    rcases List.mem_cons.1 hv with rfl | hv
    · refine mark_sub l (mark1 s v) _ ?_
      unfold mark1
      split
      · unfold on
        rw [List.getElem?_set_self (by omega)]
      · rename_i hc
        have hl : v.toNat < s.1.length := by omega
        unfold on
        rw [List.getElem?_eq_getElem hl]
        cases hb : s.1[v.toNat] with
        | true => rfl
        | false => exact absurd ⟨h0, h1, by rw [List.getElem?_eq_getElem hl, hb]⟩ hc
    · exact mark_all l (mark1 s w) v hv h0 (by rw [mark1_len]; exact h1)
theorem mark_count : ∀ (l : List Int) (s : List Bool × Bool), ((l.foldl mark1 s).2 = false → (l.foldl mark1 s).1 = s.1 ∧ s.2 = false) ∧ offs (l.foldl mark1 s).1 ≤ offs s.1 ∧
    ((l.foldl mark1 s).2 = true → s.2 = true ∨ offs (l.foldl mark1 s).1 < offs s.1)
  | [], s => ⟨fun h => ⟨rfl, h⟩, Nat.le_refl _, fun h => .inl h⟩
  | v :: l, s => by
    obtain ⟨h1, h2, h3⟩ := mark_count l (mark1 s v)
    simp only [List.foldl_cons]
    by_cases hc : 0 ≤ v ∧ v < s.1.length ∧ s.1[v.toNat]? = some false
    · have e : mark1 s v = (s.1.set v.toNat true, true) := by unfold mark1; rw [if_pos hc]
      have ho := offs_set hc.2.2
      rw [e] at h1 h2 h3 ⊢
      simp only at h1 h2 h3
      refine ⟨fun h => ?_, by omega, fun _ => .inr (by omega)⟩
      have := (h1 h).2
      cases this
    · have e : mark1 s v = s := by unfold mark1; rw [if_neg hc]
      rw [e] at h1 h2 h3 ⊢
      exact ⟨h1, h2, h3⟩
end Go.DL
