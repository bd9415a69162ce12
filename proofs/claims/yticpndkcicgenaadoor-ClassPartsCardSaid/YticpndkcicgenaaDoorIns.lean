/- Insertion by the least byte: the plain steps. -/
import Derived.Test.YticpndkcicgenaaDoorBwTab
import Derived.Test.YticpndkcicgenaaDoorPlain
namespace Go.Proofs.YticpndkcicgenaaDoor
open Go.Bw
attribute [local irreducible] Go.Bw.OpS
set_option maxHeartbeats 4000000
set_option linter.all false

def gk (M : List Cls) (a : Nat) : Int := leastI (M.getD a 0#256)
def SortTo (M : List Cls) (j : Nat) : Prop := ∀ a b, a < b → b < j → gk M a < gk M b
structure Ins (M : List Cls) (j k : Nat) : Prop where
  le : k ≤ j
  lt : j < M.length
  others : ∀ a b, a < b → b ≤ j → a ≠ k → b ≠ k → gk M a < gk M b
  behind : ∀ b, k < b → b ≤ j → gk M k < gk M b
theorem ins_init {M : List Cls} {j : Nat} (h : SortTo M j) (hj : j < M.length) : Ins M j j :=
  ⟨Nat.le_refl _, hj, fun a b hab hb _ hbk => h a b hab (by omega), fun b h1 h2 => by omega⟩
theorem ins_zero {M : List Cls} {j : Nat} (h : Ins M j 0) : SortTo M (j + 1) := by
  intro a b hab hb
  by_cases ha : a = 0
  · subst ha; exact h.behind b hab (by omega)
  · exact h.others a b hab (by omega) ha (by omega)
theorem ins_stop {M : List Cls} {j k : Nat} (h : Ins M j k) (hk : 0 < k) (hlt : gk M (k - 1) < gk M k) : SortTo M (j + 1) := by
  intro a b hab hb
  have hle := h.le
  by_cases ha : a = k
  · subst ha; exact h.behind b hab (by omega)
  · by_cases hbk : b = k
    · subst hbk
      by_cases ha1 : a = b - 1
      · subst ha1; exact hlt
      · have := h.others a (b - 1) (by omega) (by omega) ha (by omega)
        omega
    · exact h.others a b hab (by omega) ha hbk
def swp (M : List Cls) (k : Nat) : List Cls := (M.set k (M.getD (k - 1) 0#256)).set (k - 1) (M.getD k 0#256)
theorem getD_set (M : List Cls) (i a : Nat) (x : Cls) (hi : i < M.length) : (M.set i x).getD a 0#256 = if a = i then x else M.getD a 0#256 := by
  rw [List.getD_eq_getElem?_getD, List.getElem?_set]
  by_cases h : i = a
  · subst h; simp [hi]
  · rw [if_neg h, if_neg (by omega), List.getD_eq_getElem?_getD]
theorem gk_swp {M : List Cls} {k : Nat} (hk : 0 < k) (hl : k < M.length) (a : Nat) : gk (swp M k) a = if a = k - 1 then gk M k else if a = k then gk M (k - 1) else gk M a := by
  unfold gk swp
  rw [getD_set _ _ _ _ (by rw [List.length_set]; omega)]
  split
  · rfl
  · rw [getD_set _ _ _ _ hl]
    split
    · rfl
    · rfl
theorem swp_len (M : List Cls) (k : Nat) : (swp M k).length = M.length := by unfold swp; simp
theorem swp_perm {M : List Cls} {k : Nat} (hk : 0 < k) (hl : k < M.length) : (swp M k).Perm M := by
  have h1 : k - 1 < M.length := by omega
  have e1 : M.getD (k - 1) 0#256 = M[k - 1] := by simp [List.getD_eq_getElem?_getD, List.getElem?_eq_getElem h1]
  have e2 : M.getD k 0#256 = M[k] := by simp [List.getD_eq_getElem?_getD, List.getElem?_eq_getElem hl]
  unfold swp
  rw [e1, e2]
  exact List.set_set_perm hl h1
theorem ins_swp {M : List Cls} {j k : Nat} (h : Ins M j k) (hk : 0 < k) (hlt : gk M k < gk M (k - 1)) : Ins (swp M k) j (k - 1) := by
  have hle := h.le
  have hl := h.lt
  have g := gk_swp (M := M) hk (by omega)
  refine ⟨by omega, by rw [swp_len]; exact hl, fun a b hab hb ha hbk => ?_, fun b h1 h2 => ?_⟩
  · rw [g a, g b, if_neg ha, if_neg hbk]
    by_cases ha1 : a = k
    · rw [if_pos ha1, if_neg (by omega)]
      exact h.others (k - 1) b (by omega) hb (by omega) (by omega)
    · rw [if_neg ha1]
      by_cases hb1 : b = k
      · rw [if_pos hb1]
        exact h.others a (k - 1) (by omega) (by omega) ha1 (by omega)
      · rw [if_neg hb1]
        exact h.others a b hab hb ha1 hb1
  · rw [g (k - 1), g b, if_pos rfl, if_neg (by omega)]
    by_cases hb1 : b = k
    · rw [if_pos hb1]; exact hlt
    · rw [if_neg hb1]; exact h.behind b (by omega) h2
theorem gk_ne {L all M : List Cls} (hP : Part L all) (hp : M.Perm all) {a b : Nat} (ha : a < M.length) (hb : b < M.length) (hab : a ≠ b) : gk M a ≠ gk M b := by
  intro h
  have e1 : M.getD a 0#256 = M[a] := by simp [List.getD_eq_getElem?_getD, List.getElem?_eq_getElem ha]
  have e2 : M.getD b 0#256 = M[b] := by simp [List.getD_eq_getElem?_getD, List.getElem?_eq_getElem hb]
  unfold gk at h
  rw [e1, e2] at h
  obtain ⟨x, hx, h1⟩ := hP.some M[a] (hp.mem_iff.1 (List.getElem_mem ha))
  obtain ⟨y, hy, h2⟩ := hP.some M[b] (hp.mem_iff.1 (List.getElem_mem hb))
  rw [h1, h2] at h
  have h3 := key_inj hx hy h
  have hnd : M.Nodup := hp.nodup_iff.2 hP.nodup
  exact hab (List.getElem_inj hnd |>.1 (by rw [h1, h2, h3]))
theorem sort_done {L all M : List Cls} (hP : Part L all) (hp : M.Perm all) (h : SortTo M M.length) : M = refParts L := by
  refine sorted_is hP hp ?_
  rw [List.pairwise_iff_getElem]
  intro i j hi hj hij
  have := h i j hij hj
  unfold gk at this
  simpa [List.getD_eq_getElem?_getD, List.getElem?_eq_getElem hi, List.getElem?_eq_getElem hj] using this
end Go.Proofs.YticpndkcicgenaaDoor
