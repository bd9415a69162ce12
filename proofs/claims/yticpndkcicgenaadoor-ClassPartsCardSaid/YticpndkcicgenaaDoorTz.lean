/- Contracts: the library's count of trailing zeros by its table, the least byte of a class. -/
import Derived.Test.YticpndkcicgenaaDoorBwTab
import Derived.Test.YticpndkcicgenaaDoorHas
set_option linter.unusedVariables false
namespace Go.Proofs.YticpndkcicgenaaDoor
open Go.Bw
attribute [local irreducible] Go.Bw.OpS
set_option maxHeartbeats 4000000
set_option linter.all false

theorem deB_ok1 (k : Nat) (hk : k < 64) : okV (.int .u8 (k : Int)) := by
  show (0 : Int) ≤ (k : Int) ∧ (k : Int) ≤ 255
  omega
theorem and_negI (x : BitVec 64) (h0 : x ≠ 0#64) : ibit .and .u64 (x.toNat : Int) (IntKind.u64.wrap (-(x.toNat : Int))) = ((2 ^ low x.toNat : Nat) : Int) := by
  show IntKind.u64.wrap ((BitVec.ofInt 64 _ &&& BitVec.ofInt 64 (IntKind.u64.wrap (-(x.toNat : Int)))).toNat : Int) = _
  have e1 : BitVec.ofInt 64 (x.toNat : Int) = x := by rw [BitVec.ofInt_natCast, BitVec.ofNat_toNat, BitVec.setWidth_eq]
  have e2 : BitVec.ofInt 64 (IntKind.u64.wrap (-(x.toNat : Int))) = -x := by
    apply BitVec.eq_of_toInt_eq
    rw [BitVec.toInt_ofInt, BitVec.toInt_neg, IntKind.wrap_u64]
    have h1 := BitVec.toInt_eq_toNat_bmod x
    rw [h1]
    simp only [Int.bmod_def]
    have := x.isLt
    omega
  rw [e1, e2, ibit_u64, and_neg x h0]
theorem tz_ac {G} (g : Nat) (hg : g = 0) (hG : ∀ p ∈ tabG g, p ∈ G) (x : BitVec 64) : ACalls Tryd.prog G 74 [AI .u64 (x.toNat : Int)] [] [] [] [] (AI .i64 ((if x = 0#64 then 64 else low x.toNat : Nat) : Int)) := by
  refine acalls_fn xt Tryd.func74 [AI .i64 ((if x = 0#64 then 64 else low x.toNat : Nat) : Int)] rfl rfl rfl ?_
  (intro φ0 F0 w0; conv => whnf)
  subst hg
  repeat (first | (refine code_ap xt ?_; conv => whnf) | (refine And.intro (by omega) ?_; conv => whnf) | (refine And.intro (by simp only [andP, addO, mulO, IntKind.bits, Int.reduceToNat]; omega) ?_; conv => whnf) | (refine And.intro (draw_ok (by kernel_rfl) (by kernel_rfl)) ?_; conv => whnf) | (refine cond_T (by first | with_reducible assumption | omega) ?_) | (refine cond_F (by first | with_reducible assumption | omega) ?_) | (refine bcond_T (by first | with_reducible assumption | omega) ?_; conv => whnf) | (refine bcond_F (by first | with_reducible assumption | omega) ?_; conv => whnf) | (refine bcond_ble (by first | omega | (simp only [addO, mulO, Int.reduceToNat]; omega)) ?_; conv => whnf))
  refine cond_s (fun hc => ?_) (fun hc => ?_)
  · repeat (first | (refine code_ap xt ?_; conv => whnf) | (refine And.intro (by omega) ?_; conv => whnf) | (refine And.intro (by simp only [andP, addO, mulO, IntKind.bits, Int.reduceToNat]; omega) ?_; conv => whnf) | (refine And.intro (draw_ok (by kernel_rfl) (by kernel_rfl)) ?_; conv => whnf) | (refine cond_T (by first | with_reducible assumption | omega) ?_) | (refine cond_F (by first | with_reducible assumption | omega) ?_) | (refine bcond_T (by first | with_reducible assumption | omega) ?_; conv => whnf) | (refine bcond_F (by first | with_reducible assumption | omega) ?_; conv => whnf) | (refine bcond_ble (by first | omega | (simp only [addO, mulO, Int.reduceToNat]; omega)) ?_; conv => whnf))
    have hx : x = 0#64 := BitVec.eq_of_toNat_eq (by simp; omega)
    rw [if_pos hx]
    ((repeat' (refine And.intro ?_ ?_)) <;> first | exact rfl | exact trivial | exact fun _ _ _ _ => CoD.refl _ | exact fun _ _ => CoD.refl _ | exact Nat.le_refl _ | omega | ((conv => whnf); first | omega | rfl))
  · repeat (first | (refine code_ap xt ?_; conv => whnf) | (refine And.intro (by omega) ?_; conv => whnf) | (refine And.intro (by simp only [andP, addO, mulO, IntKind.bits, Int.reduceToNat]; omega) ?_; conv => whnf) | (refine And.intro (draw_ok (by kernel_rfl) (by kernel_rfl)) ?_; conv => whnf) | (refine cond_T (by first | with_reducible assumption | omega) ?_) | (refine cond_F (by first | with_reducible assumption | omega) ?_) | (refine bcond_T (by first | with_reducible assumption | omega) ?_; conv => whnf) | (refine bcond_F (by first | with_reducible assumption | omega) ?_; conv => whnf) | (refine bcond_ble (by first | omega | (simp only [addO, mulO, Int.reduceToNat]; omega)) ?_; conv => whnf))
    have hx : x ≠ 0#64 := by intro h; subst h; simp at hc
    have hk : low x.toNat < 64 := low_lt (fun h => hx (BitVec.eq_of_toNat_eq (by simpa using h))) x.isLt
    obtain ⟨hi, hv⟩ := deB_at _ hk
    have hneg := and_negI x hx
    rw [if_neg hx]
    generalize hlow : low x.toNat = k at *
    rw [hneg]
    have hi2 : (IntKind.u64.wrap (((2 ^ k : Nat) : Int) * 285870213051353865) / 2 ^ Int.toNat 58) = ((2 ^ k * 285870213051353865 % 18446744073709551616 / 288230376151711744 : Nat) : Int) := by
      rw [IntKind.wrap_u64]; rfl
    (refine opx_q (OpS.idxG _ rfl rfl rfl hi2 (xt.get rfl).1 rfl (xt.get rfl).1 hi rfl) ?_; conv => whnf)
    (refine opx_q (OpS.loadG rfl rfl rfl (hG _ (tabG_mem _ _ hi)) (xt.get rfl).1 rfl rfl (by rw [hv]; exact deB_ok1 k hk)) ?_; conv => whnf)
    rw [hv]
    repeat (first | (refine code_ap xt ?_; conv => whnf) | (refine And.intro (by omega) ?_; conv => whnf) | (refine And.intro (by simp only [andP, addO, mulO, IntKind.bits, Int.reduceToNat]; omega) ?_; conv => whnf) | (refine And.intro (draw_ok (by kernel_rfl) (by kernel_rfl)) ?_; conv => whnf) | (refine cond_T (by first | with_reducible assumption | omega) ?_) | (refine cond_F (by first | with_reducible assumption | omega) ?_) | (refine bcond_T (by first | with_reducible assumption | omega) ?_; conv => whnf) | (refine bcond_F (by first | with_reducible assumption | omega) ?_; conv => whnf) | (refine bcond_ble (by first | omega | (simp only [addO, mulO, Int.reduceToNat]; omega)) ?_; conv => whnf))
    ((repeat' (refine And.intro ?_ ?_)) <;> first | exact rfl | exact trivial | exact fun _ _ _ _ => CoD.refl _ | exact fun _ _ => CoD.refl _ | exact Nat.le_refl _ | omega | ((conv => whnf); first | omega | rfl))
theorem wd_eq (c : Cls) (i : Nat) : wd c i = ((wb c i).toNat : Int) := rfl
def leastI (c : Cls) : Int := if c = 0#256 then -1 else (low c.toNat : Int)
theorem wb_bit (c : Cls) (i j : Nat) (hj : j < 64) : (wb c i).toNat.testBit j = c.getLsbD (64 * i + j) := by
  show (wb c i).getLsbD j = _
  unfold wb
  rw [BitVec.getLsbD_extractLsb']
  simp [hj]
theorem cls_zero (c : Cls) (h : ∀ j, j < 4 → wd c j = 0) : c = 0#256 := by
  apply BitVec.eq_of_getLsbD_eq
  intro i hi
  have h1 := wb_bit c (i / 64) (i % 64) (by omega)
  have h2 := h (i / 64) (by omega)
  have h3 : (wb c (i / 64)).toNat = 0 := by unfold wd at h2; omega
  rw [h3, show 64 * (i / 64) + i % 64 = i by omega] at h1
  rw [← h1]; simp
theorem least_at (c : Cls) (i : Nat) (hi : i < 4) (hz : ∀ j, j < i → wd c j = 0) (hn : wd c i ≠ 0) : leastI c = ((64 * i + low (wb c i).toNat : Nat) : Int) ∧ low (wb c i).toNat < 64 := by
  have hw : (wb c i).toNat ≠ 0 := by unfold wd at hn; omega
  have hk := low_lt hw (wb c i).isLt
  obtain ⟨h1, h2⟩ := low_spec _ hw
  have hb : c.toNat.testBit (64 * i + low (wb c i).toNat) = true := by
    rw [wb_bit c i _ hk] at h1; exact h1
  have hc : c ≠ 0#256 := by intro h; subst h; simp at hb
  refine ⟨?_, hk⟩
  unfold leastI
  rw [if_neg hc, low_unique hb]
  intro j hj
  by_cases hji : j < 64 * i
  · have h3 := wb_bit c (j / 64) (j % 64) (by omega)
    have h4 := hz (j / 64) (by omega)
    have h5 : (wb c (j / 64)).toNat = 0 := by unfold wd at h4; omega
    rw [h5, show 64 * (j / 64) + j % 64 = j by omega] at h3
    show c.getLsbD j = false
    rw [← h3]; simp
  · have h3 := wb_bit c i (j - 64 * i) (by omega)
    rw [h2 _ (by omega), show 64 * i + (j - 64 * i) = j by omega] at h3
    exact h3.symm
theorem or64_ok : ((List.range 4).all fun i => (List.range 64).all fun t => ibit .or .i64 (IntKind.i64.wrap ((i : Int) * 2 ^ 6)) (t : Int) == ((64 * i + t : Nat) : Int)) = true := by decide +kernel
theorem or64 (i t : Nat) (hi : i < 4) (ht : t < 64) : ibit .or .i64 (IntKind.i64.wrap ((i : Int) * 2 ^ 6)) (t : Int) = ((64 * i + t : Nat) : Int) := by
  have := List.all_eq_true.1 (List.all_eq_true.1 or64_ok i (List.mem_range.2 hi)) t (List.mem_range.2 ht)
  simpa using this
theorem least_ac {G} (g : Nat) (hg : g = 0) (hG : ∀ p ∈ tabG g, p ∈ G) (c : Cls) : ACalls Tryd.prog G 33 [clsA c] [] [] [] [] (AI .i64 (leastI c)) := by
  refine acalls_fn xt Tryd.func33 [AI .i64 (leastI c)] rfl rfl rfl ?_
  (intro φ0 F0 w0; conv => whnf)
  repeat (first | (refine code_ap xt ?_; conv => whnf) | (refine And.intro (by omega) ?_; conv => whnf) | (refine And.intro (by simp only [andP, addO, mulO, IntKind.bits, Int.reduceToNat]; omega) ?_; conv => whnf) | (refine And.intro (draw_ok (by kernel_rfl) (by kernel_rfl)) ?_; conv => whnf) | (refine cond_T (by first | with_reducible assumption | omega) ?_) | (refine cond_F (by first | with_reducible assumption | omega) ?_) | (refine bcond_T (by first | with_reducible assumption | omega) ?_; conv => whnf) | (refine bcond_F (by first | with_reducible assumption | omega) ?_; conv => whnf) | (refine bcond_ble (by first | omega | (simp only [addO, mulO, Int.reduceToNat]; omega)) ?_; conv => whnf))
  refine loop_u (fun (i : Nat) => i ≤ 4 ∧ ∀ j, j < i → wd c j = 0) (fun i => [(6, AI .i64 (i : Int)), (2, AI .i64 0)]) (fun i => []) (fun i => 4 - i) 0 ⟨by omega, by intro j hj; omega⟩ ?_
  conv => whnf
  refine And.intro ?_ ?_
  · conv => whnf
    ((repeat' (refine And.intro ?_ ?_)) <;> first | exact rfl | exact trivial | exact fun _ _ _ _ => CoD.refl _ | exact fun _ _ => CoD.refl _ | exact Nat.le_refl _ | omega | ((conv => whnf); first | omega | rfl))
  · intro i ⟨hi, hz⟩
    repeat (first | (refine code_ap xt ?_; conv => whnf) | (refine And.intro (by omega) ?_; conv => whnf) | (refine And.intro (by simp only [andP, addO, mulO, IntKind.bits, Int.reduceToNat]; omega) ?_; conv => whnf) | (refine And.intro (draw_ok (by kernel_rfl) (by kernel_rfl)) ?_; conv => whnf) | (refine cond_T (by first | with_reducible assumption | omega) ?_) | (refine cond_F (by first | with_reducible assumption | omega) ?_) | (refine bcond_T (by first | with_reducible assumption | omega) ?_; conv => whnf) | (refine bcond_F (by first | with_reducible assumption | omega) ?_; conv => whnf) | (refine bcond_ble (by first | omega | (simp only [addO, mulO, Int.reduceToNat]; omega)) ?_; conv => whnf))
    refine cond_s (fun hc => ?_) (fun hc => ?_)
    · have hi4 : i < 4 := by omega
      repeat (first | (refine code_ap xt ?_; conv => whnf) | (refine And.intro (by omega) ?_; conv => whnf) | (refine And.intro (by simp only [andP, addO, mulO, IntKind.bits, Int.reduceToNat]; omega) ?_; conv => whnf) | (refine And.intro (draw_ok (by kernel_rfl) (by kernel_rfl)) ?_; conv => whnf) | (refine cond_T (by first | with_reducible assumption | omega) ?_) | (refine cond_F (by first | with_reducible assumption | omega) ?_) | (refine bcond_T (by first | with_reducible assumption | omega) ?_; conv => whnf) | (refine bcond_F (by first | with_reducible assumption | omega) ?_; conv => whnf) | (refine bcond_ble (by first | omega | (simp only [addO, mulO, Int.reduceToNat]; omega)) ?_; conv => whnf))
      refine cond_s (fun hd => ?_) (fun hd => ?_)
      · have hd : wd c i ≠ 0 := hd
        obtain ⟨e1, e2⟩ := least_at c i hi4 hz hd
        have hx : wb c i ≠ 0#64 := by intro h; apply hd; unfold wd; rw [h]; rfl
        have htz := tz_ac g hg hG (wb c i)
        rw [if_neg hx] at htz
        repeat (first | (refine code_ap xt ?_; conv => whnf) | (refine And.intro (by omega) ?_; conv => whnf) | (refine And.intro (by simp only [andP, addO, mulO, IntKind.bits, Int.reduceToNat]; omega) ?_; conv => whnf) | (refine And.intro (draw_ok (by kernel_rfl) (by kernel_rfl)) ?_; conv => whnf) | (refine cond_T (by first | with_reducible assumption | omega) ?_) | (refine cond_F (by first | with_reducible assumption | omega) ?_) | (refine bcond_T (by first | with_reducible assumption | omega) ?_; conv => whnf) | (refine bcond_F (by first | with_reducible assumption | omega) ?_; conv => whnf) | (refine bcond_ble (by first | omega | (simp only [addO, mulO, Int.reduceToNat]; omega)) ?_; conv => whnf))
        (refine opx_call (htz) (by kernel_rfl) rfl ?_; (conv => whnf); repeat (refine And.intro ?_ ?_; (focus (((repeat' (refine And.intro ?_ ?_)) <;> first | exact rfl | exact trivial | exact fun _ _ _ _ => CoD.refl _ | exact fun _ _ => CoD.refl _ | exact Nat.le_refl _ | omega | ((conv => whnf); first | omega | rfl)); done)); conv => whnf))
        repeat (first | (refine code_ap xt ?_; conv => whnf) | (refine And.intro (by omega) ?_; conv => whnf) | (refine And.intro (by simp only [andP, addO, mulO, IntKind.bits, Int.reduceToNat]; omega) ?_; conv => whnf) | (refine And.intro (draw_ok (by kernel_rfl) (by kernel_rfl)) ?_; conv => whnf) | (refine cond_T (by first | with_reducible assumption | omega) ?_) | (refine cond_F (by first | with_reducible assumption | omega) ?_) | (refine bcond_T (by first | with_reducible assumption | omega) ?_; conv => whnf) | (refine bcond_F (by first | with_reducible assumption | omega) ?_; conv => whnf) | (refine bcond_ble (by first | omega | (simp only [addO, mulO, Int.reduceToNat]; omega)) ?_; conv => whnf))
        ((repeat' (refine And.intro ?_ ?_)) <;> first | exact (or64 i _ hi4 e2).trans e1.symm | exact rfl | exact trivial | exact fun _ _ _ _ => CoD.refl _ | exact fun _ _ => CoD.refl _ | exact Nat.le_refl _ | omega | ((conv => whnf); first | exact (or64 i _ hi4 e2).trans e1.symm | omega | rfl))
      · have hd : ¬ wd c i ≠ 0 := hd
        repeat (first | (refine code_ap xt ?_; conv => whnf) | (refine And.intro (by omega) ?_; conv => whnf) | (refine And.intro (by simp only [andP, addO, mulO, IntKind.bits, Int.reduceToNat]; omega) ?_; conv => whnf) | (refine And.intro (draw_ok (by kernel_rfl) (by kernel_rfl)) ?_; conv => whnf) | (refine cond_T (by first | with_reducible assumption | omega) ?_) | (refine cond_F (by first | with_reducible assumption | omega) ?_) | (refine bcond_T (by first | with_reducible assumption | omega) ?_; conv => whnf) | (refine bcond_F (by first | with_reducible assumption | omega) ?_; conv => whnf) | (refine bcond_ble (by first | omega | (simp only [addO, mulO, Int.reduceToNat]; omega)) ?_; conv => whnf))
        (refine round_end (i + 1) (⟨by omega, upto_succ hz (Decidable.of_not_not hd)⟩) (by (try dsimp only); omega) ?_; (conv => whnf); ((repeat' (refine And.intro ?_ ?_)) <;> first | exact rfl | exact trivial | exact fun _ _ _ _ => CoD.refl _ | exact fun _ _ => CoD.refl _ | exact Nat.le_refl _ | omega | ((conv => whnf); first | omega | rfl)))
    · have h4 : i = 4 := by omega
      subst h4
      have h0 : leastI c = -1 := by unfold leastI; rw [if_pos (cls_zero c hz)]
      repeat (first | (refine code_ap xt ?_; conv => whnf) | (refine And.intro (by omega) ?_; conv => whnf) | (refine And.intro (by simp only [andP, addO, mulO, IntKind.bits, Int.reduceToNat]; omega) ?_; conv => whnf) | (refine And.intro (draw_ok (by kernel_rfl) (by kernel_rfl)) ?_; conv => whnf) | (refine cond_T (by first | with_reducible assumption | omega) ?_) | (refine cond_F (by first | with_reducible assumption | omega) ?_) | (refine bcond_T (by first | with_reducible assumption | omega) ?_; conv => whnf) | (refine bcond_F (by first | with_reducible assumption | omega) ?_; conv => whnf) | (refine bcond_ble (by first | omega | (simp only [addO, mulO, Int.reduceToNat]; omega)) ?_; conv => whnf))
      rw [h0]
      ((repeat' (refine And.intro ?_ ?_)) <;> first | exact rfl | exact trivial | exact fun _ _ _ _ => CoD.refl _ | exact fun _ _ => CoD.refl _ | exact Nat.le_refl _ | omega | ((conv => whnf); first | omega | rfl))
end Go.Proofs.YticpndkcicgenaaDoor
