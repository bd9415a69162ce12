/- The plain law of parts: what splitting and sorting makes of a list of classes is the reference's list. -/
import Derived.Test.YticpndkcicgenaaDoorBwTab
import Derived.Test.YticpndkcicgenaaDoorRef2
namespace Go.Proofs.YticpndkcicgenaaDoor
open Go.Bw
attribute [local irreducible] Go.Bw.OpS
set_option maxHeartbeats 4000000
set_option linter.all false

theorem alike_iff {L : List Cls} {b c : Nat} : alike L b c = true ↔ ∀ x ∈ L, x.getLsbD b = x.getLsbD c := by
  unfold alike
  rw [List.all_eq_true]
  simp
theorem alike_self (L : List Cls) (b : Nat) : alike L b b = true := alike_iff.2 fun _ _ => rfl
theorem alike_symm {L : List Cls} {b c : Nat} (h : alike L b c = true) : alike L c b = true := alike_iff.2 fun x hx => (alike_iff.1 h x hx).symm
theorem alike_trans {L : List Cls} {b c d : Nat} (h : alike L b c = true) (k : alike L c d = true) : alike L b d = true := alike_iff.2 fun x hx => (alike_iff.1 h x hx).trans (alike_iff.1 k x hx)
theorem cls_ext {c d : Cls} (h : ∀ j, j < 256 → c.getLsbD j = d.getLsbD j) : c = d := BitVec.eq_of_getLsbD_eq h
theorem cl_eq {L : List Cls} {b c : Nat} (h : alike L b c = true) : cl L b = cl L c := by
  refine cls_ext fun j hj => ?_
  rw [cl_bit L b j hj, cl_bit L c j hj, Bool.eq_iff_iff]
  exact ⟨fun k => alike_trans (alike_symm h) k, fun k => alike_trans h k⟩
theorem cl_alike {L : List Cls} {b c : Nat} (hc : c < 256) (h : cl L b = cl L c) : alike L b c = true := by
  have := cl_bit L b c hc
  rw [h, cl_bit L c c hc, alike_self] at this
  exact this.symm

structure Part (l all : List Cls) : Prop where
  some : ∀ p ∈ all, ∃ b, b < 256 ∧ p = cl l b
  every : ∀ b, b < 256 → cl l b ∈ all
  nodup : all.Nodup

theorem alike_snoc {l : List Cls} {c : Cls} {b d : Nat} : alike (l ++ [c]) b d = (alike l b d && (c.getLsbD b == c.getLsbD d)) := by
  unfold alike
  rw [List.all_append]
  simp
theorem part_nil : Part [] [~~~(0#256)] := by
  have h : ∀ b, cl [] b = ~~~(0#256) := fun b => cls_ext fun j hj => by
    rw [cl_bit [] b j hj, BitVec.getLsbD_not]
    simp [alike, hj]
  refine ⟨fun p hp => ⟨0, by decide, ?_⟩, fun b _ => ?_, by simp⟩
  · rw [h]; simpa using hp
  · rw [h]; simp
theorem part_skip {l all : List Cls} {c : Cls} (hc : c ∈ l) (h : Part l all) : Part (l ++ [c]) all := by
  have e : ∀ b, cl (l ++ [c]) b = cl l b := fun b => cls_ext fun j hj => by
    rw [cl_bit _ b j hj, cl_bit _ b j hj, alike_snoc, Bool.eq_iff_iff]
    simp only [Bool.and_eq_true, beq_iff_eq]
    exact ⟨fun k => k.1, fun k => ⟨k, alike_iff.1 k c hc⟩⟩
  exact ⟨fun p hp => by obtain ⟨b, hb, k⟩ := h.some p hp; exact ⟨b, hb, by rw [e]; exact k⟩, fun b hb => by rw [e]; exact h.every b hb, h.nodup⟩
def splitOne (c p : Cls) : List Cls := (if p &&& c ≠ 0#256 then [p &&& c] else []) ++ (if p &&& ~~~c ≠ 0#256 then [p &&& ~~~c] else [])
def split (c : Cls) (all : List Cls) : List Cls := all.flatMap (splitOne c)
theorem cls_ne_zero {c : Cls} : c ≠ 0#256 ↔ ∃ j, j < 256 ∧ c.getLsbD j = true := by
  constructor
  · intro h
    by_cases hx : ∃ j, j < 256 ∧ c.getLsbD j = true
    · exact hx
    · exfalso
      apply h
      refine cls_ext fun j hj => ?_
      simp only [BitVec.getLsbD_zero]
      cases hb : c.getLsbD j with
      | false => rfl
      | true => exact absurd ⟨j, hj, hb⟩ hx
  · rintro ⟨j, hj, hb⟩ h
    subst h
    simp at hb
/-- the piece of a block that lies on b's side of c -/
def side (c : Cls) (b : Nat) : Cls := if c.getLsbD b then c else ~~~c
theorem cl_snoc (l : List Cls) (c : Cls) (b : Nat) (hb : b < 256) : cl (l ++ [c]) b = cl l b &&& side c b := by
  refine cls_ext fun j hj => ?_
  rw [cl_bit _ b j hj, BitVec.getLsbD_and, cl_bit _ b j hj, alike_snoc]
  congr 1
  unfold side
  cases h : c.getLsbD b <;> simp [hj]
theorem mem_splitOne {c p q : Cls} : q ∈ splitOne c p ↔ (q = p &&& c ∨ q = p &&& ~~~c) ∧ q ≠ 0#256 := by
  unfold splitOne
  rw [List.mem_append]
  constructor
  · rintro (h | h) <;> split at h
    · rename_i hn; simp at h; subst h; exact ⟨.inl rfl, hn⟩
    · simp at h
    · rename_i hn; simp at h; subst h; exact ⟨.inr rfl, hn⟩
    · simp at h
  · rintro ⟨rfl | rfl, hn⟩
    · left; rw [if_pos hn]; simp
    · right; rw [if_pos hn]; simp
theorem side_of_mem {l : List Cls} {c : Cls} {b : Nat} {q : Cls} (hq : q = cl l b &&& c ∨ q = cl l b &&& ~~~c) (hn : q ≠ 0#256) : ∃ d, d < 256 ∧ q = cl (l ++ [c]) d ∧ alike l b d = true := by
  obtain ⟨d, hd, hb⟩ := cls_ne_zero.1 hn
  have h1 : (cl l b).getLsbD d = true ∧ q = cl l b &&& side c d := by
    unfold side
    rcases hq with rfl | rfl
    · rw [BitVec.getLsbD_and, Bool.and_eq_true] at hb
      exact ⟨hb.1, by rw [if_pos hb.2]⟩
    · rw [BitVec.getLsbD_and, Bool.and_eq_true] at hb
      have h2 := hb.2
      rw [BitVec.getLsbD_not, Bool.and_eq_true, Bool.not_eq_true'] at h2
      exact ⟨hb.1, by rw [if_neg (by rw [h2.2]; decide)]⟩
  have h2 : alike l b d = true := by rw [← cl_bit l b d hd]; exact h1.1
  exact ⟨d, hd, by rw [cl_snoc l c d hd, ← cl_eq h2]; exact h1.2, h2⟩
theorem cl_self_bit (l : List Cls) (b : Nat) (hb : b < 256) : (cl l b).getLsbD b = true := by rw [cl_bit l b b hb]; exact alike_self l b
theorem part_step {l all : List Cls} (c : Cls) (h : Part l all) : Part (l ++ [c]) (split c all) := by
  refine ⟨fun q hq => ?_, fun b hb => ?_, ?_⟩
  · obtain ⟨p, hp, hq⟩ := List.mem_flatMap.1 hq
    obtain ⟨b, hb, rfl⟩ := h.some p hp
    obtain ⟨h1, h2⟩ := mem_splitOne.1 hq
    obtain ⟨d, hd, h3, _⟩ := side_of_mem h1 h2
    exact ⟨d, hd, h3⟩
  · refine List.mem_flatMap.2 ⟨cl l b, h.every b hb, mem_splitOne.2 ⟨?_, ?_⟩⟩
    · rw [cl_snoc l c b hb]
      unfold side
      split
      · exact .inl rfl
      · exact .inr rfl
    · exact cls_ne_zero.2 ⟨b, hb, cl_self_bit _ b hb⟩
  · unfold split
    rw [List.Nodup, List.pairwise_flatMap]
    refine ⟨fun p hp => ?_, ?_⟩
    · unfold splitOne
      split <;> split <;> simp
      rename_i hn hm
      intro he
      apply hn
      obtain ⟨b, hb, rfl⟩ := h.some p hp
      have : (cl l b &&& c) = (cl l b &&& c) &&& (cl l b &&& ~~~c) := by rw [← he, BitVec.and_self]
      rw [this]
      refine cls_ext fun j hj => ?_
      simp [hj]
      intro _ hcj; simp [hcj]
    · refine h.nodup.imp_of_mem ?_
      intro p p' hp hp' hne
      intro q hq q' hq' heq
      subst heq
      obtain ⟨b, hb, rfl⟩ := h.some p hp
      obtain ⟨b', hb', rfl⟩ := h.some p' hp'
      obtain ⟨h1, h2⟩ := mem_splitOne.1 hq
      obtain ⟨h1', h2'⟩ := mem_splitOne.1 hq'
      obtain ⟨d, hd, h3, h4⟩ := side_of_mem h1 h2
      obtain ⟨d', hd', h3', h4'⟩ := side_of_mem h1' h2'
      apply hne
      have h5 := cl_alike hd' (h3.symm.trans h3')
      rw [alike_snoc, Bool.and_eq_true] at h5
      exact cl_eq (alike_trans h4 (alike_trans h5.1 (alike_symm h4')))
theorem split_len (c : Cls) (all : List Cls) : (split c all).length ≤ 2 * all.length := by
  unfold split
  induction all with
  | nil => simp
  | cons p all ih =>
    rw [List.flatMap_cons, List.length_append, List.length_cons]
    have : (splitOne c p).length ≤ 2 := by unfold splitOne; split <;> split <;> simp
    omega

/-! ### sorted by the least byte -/
theorem key_cl (L : List Cls) (b : Nat) (hb : b < 256) : ∃ m : Nat, m < 256 ∧ leastI (cl L b) = (m : Int) ∧ cl L m = cl L b ∧ isFirst L m = true := by
  have h0 : cl L b ≠ 0#256 := cls_ne_zero.2 ⟨b, hb, cl_self_bit L b hb⟩
  have hn : (cl L b).toNat ≠ 0 := fun h => h0 (BitVec.eq_of_toNat_eq (by simpa using h))
  obtain ⟨h1, h2⟩ := low_spec _ hn
  have hm := low_lt hn (cl L b).isLt
  generalize hlow : low (cl L b).toNat = m at *
  have h3 : alike L b m = true := by rw [← cl_bit L b m hm]; exact h1
  refine ⟨m, hm, ?_, (cl_eq h3).symm, ?_⟩
  · unfold leastI; rw [if_neg h0, hlow]
  · unfold isFirst
    rw [List.all_eq_true]
    intro j hj
    have hj := List.mem_range.1 hj
    have h4 : (cl L b).getLsbD j = false := h2 j hj
    rw [cl_bit L b j (by omega)] at h4
    simp only [Bool.not_eq_true']
    cases h5 : alike L m j with
    | false => rfl
    | true => rw [alike_trans h3 h5] at h4; cases h4
theorem key_inj {L : List Cls} {b c : Nat} (hb : b < 256) (hc : c < 256) (h : leastI (cl L b) = leastI (cl L c)) : cl L b = cl L c := by
  obtain ⟨m, _, h1, h2, _⟩ := key_cl L b hb
  obtain ⟨n, _, h3, h4, _⟩ := key_cl L c hc
  have : m = n := by omega
  subst this
  exact h2.symm.trans h4
theorem first_key {L : List Cls} {b : Nat} (hb : b < 256) (hf : isFirst L b = true) : leastI (cl L b) = (b : Int) := by
  obtain ⟨m, hm, h1, h2, h3⟩ := key_cl L b hb
  have h4 := cl_alike hb h2
  rcases Nat.lt_trichotomy m b with h | h | h
  · have := List.all_eq_true.1 hf m (List.mem_range.2 h)
    rw [alike_symm h4] at this; simp at this
  · subst h; exact h1
  · have := List.all_eq_true.1 h3 b (List.mem_range.2 h)
    rw [h4] at this; simp at this
theorem refParts_mem {L : List Cls} {p : Cls} : p ∈ refParts L ↔ ∃ b, b < 256 ∧ p = cl L b := by
  unfold refParts
  constructor
  · intro h
    obtain ⟨b, hb, rfl⟩ := List.mem_map.1 h
    exact ⟨b, List.mem_range.1 (List.mem_filter.1 hb).1, rfl⟩
  · rintro ⟨b, hb, rfl⟩
    obtain ⟨m, hm, _, h2, h3⟩ := key_cl L b hb
    exact List.mem_map.2 ⟨m, List.mem_filter.2 ⟨List.mem_range.2 hm, h3⟩, h2⟩
theorem refParts_sorted (L : List Cls) : (refParts L).Pairwise fun a b => leastI a < leastI b := by
  unfold refParts
  rw [List.pairwise_map]
  refine ((List.pairwise_lt_range (n := 256)).filter _).imp_of_mem ?_
  intro a b ha hb hab
  have ha := List.mem_filter.1 ha
  have hb := List.mem_filter.1 hb
  rw [first_key (List.mem_range.1 ha.1) ha.2, first_key (List.mem_range.1 hb.1) hb.2]
  omega
theorem sorted_ext {α : Type} (r : α → Int) : ∀ {l m : List α}, l.Pairwise (fun a b => r a < r b) → m.Pairwise (fun a b => r a < r b) → (∀ x, x ∈ l ↔ x ∈ m) → l = m
  | [], [], _, _, _ => rfl
  | [], b :: m, _, _, h => by have := (h b).2 (by simp); simp at this
  | a :: l, [], _, _, h => by have := (h a).1 (by simp); simp at this
  | a :: l, b :: m, hl, hm, h => by
    rw [List.pairwise_cons] at hl hm
    have hab : a = b := by
      rcases List.mem_cons.1 ((h a).1 (by simp)) with h1 | h1
      · exact h1
      · rcases List.mem_cons.1 ((h b).2 (by simp)) with h2 | h2
        · exact h2.symm
        · have := hl.1 b h2; have := hm.1 a h1; omega
    subst hab
    congr 1
    refine sorted_ext r hl.2 hm.2 fun x => ⟨fun hx => ?_, fun hx => ?_⟩
    · rcases List.mem_cons.1 ((h x).1 (by simp [hx])) with h1 | h1
      · subst h1; have := hl.1 x hx; omega
      · exact h1
    · rcases List.mem_cons.1 ((h x).2 (by simp [hx])) with h1 | h1
      · subst h1; have := hm.1 x hx; omega
      · exact h1
theorem sorted_is {L all M : List Cls} (h : Part L all) (hp : M.Perm all) (hs : M.Pairwise fun a b => leastI a < leastI b) : M = refParts L :=
  sorted_ext leastI hs (refParts_sorted L) fun x => by
    rw [hp.mem_iff, refParts_mem]
    exact ⟨fun hx => h.some x hx, fun ⟨b, hb, e⟩ => e ▸ h.every b hb⟩
end Go.Proofs.YticpndkcicgenaaDoor
