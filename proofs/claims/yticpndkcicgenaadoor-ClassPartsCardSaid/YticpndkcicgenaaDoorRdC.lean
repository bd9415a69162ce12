/- Classes and lists of them as arguments; the laid table. -/
import Derived.Test.YticpndkcicgenaaDoorBwTab
import Derived.Test.YticpndkcicgenaaDoorLaw1
import Derived.Test.YticpndkcicgenaaDoorBw17
import Derived.Test.YticpndkcicgenaaDoorRows
set_option linter.all false
namespace Go.Proofs.YticpndkcicgenaaDoor
open Go.ChangeShapes Go.WideShapes Go.RowKit Go.Bw
set_option maxHeartbeats 4000000

theorem own : ownKnob Tryd.prog.godebug = none := by kernel_rfl
theorem laidOut : laidOutB Tryd.prog = true := by kernel_rfl
theorem tab_name : Tryd.prog.globalNamed "math/bits.deBruijn64tab" = some 0 := by kernel_rfl
theorem tab_type : (Tryd.prog.globals[0]?).map (·.type) = some 161 := by kernel_rfl

def ofWords (v : Nat → Int) : Cls := BitVec.ofNat 256 ((v 0).toNat + (v 1).toNat * 2 ^ 64 + (v 2).toNat * 2 ^ 128 + (v 3).toNat * 2 ^ 192)
theorem wd_ofWords (v : Ints .u64) (j : Nat) (hj : j < 4) : v.1 j = wd (ofWords v.1) j := by
  have h : ∀ i, 0 ≤ v.1 i ∧ v.1 i ≤ 18446744073709551615 := v.2
  obtain ⟨a, ha⟩ := Int.eq_ofNat_of_zero_le (h 0).1
  obtain ⟨b, hb⟩ := Int.eq_ofNat_of_zero_le (h 1).1
  obtain ⟨c, hc⟩ := Int.eq_ofNat_of_zero_le (h 2).1
  obtain ⟨d, hd⟩ := Int.eq_ofNat_of_zero_le (h 3).1
  have h0 := (h 0).2
  have h1 := (h 1).2
  have h2 := (h 2).2
  have h3 := (h 3).2
  unfold wd wb ofWords
  rw [BitVec.extractLsb'_toNat, BitVec.toNat_ofNat, Nat.shiftRight_eq_div_pow, ha, hb, hc, hd]
  simp only [Int.ofNat_eq_natCast, Int.toNat_natCast]
  rw [ha] at h0
  rw [hb] at h1
  rw [hc] at h2
  rw [hd] at h3
  have : j = 0 ∨ j = 1 ∨ j = 2 ∨ j = 3 := by omega
  rcases this with rfl | rfl | rfl | rfl
  · rw [ha]; (try simp only [Int.ofNat_eq_natCast] at *); omega
  · rw [hb]; (try simp only [Int.ofNat_eq_natCast] at *); omega
  · rw [hc]; (try simp only [Int.ofNat_eq_natCast] at *); omega
  · rw [hd]; (try simp only [Int.ofNat_eq_natCast] at *); omega
section
variable {H : Type} {enc : TypeId × Value → H} {W : World}
theorem rd_cls : Rd enc Tryd.prog W 26 4 clsD :=
  Rd.map (fun v => ofWords v.1) (Rd.ints (k := .u64) (n := 4) Tryd.underlying26 Tryd.underlying24 (by kernel_rfl) (by kernel_rfl)) fun v j hj => by
    show D.raw (.int .u64 (v.1 j)) = .raw (.int .u64 (wd (ofWords v.1) j))
    rw [wd_ofWords v j hj]
theorem rd_lstC : Rd enc Tryd.prog W 22 1 (fun (L : List Cls) _ => lstL 4 clsD 0#256 L) :=
  Rd.slice Tryd.underlying22 (by kernel_rfl) (by decide) 0#256 rd_cls
end
theorem map_inj {α β : Type} {f : α → β} (hf : ∀ a b, f a = f b → a = b) : ∀ {l m : List α}, l.map f = m.map f → l = m
  | [], [], _ => rfl
  | [], _ :: _, h => by simp at h
  | _ :: _, [], h => by simp at h
  | a :: l, b :: m, h => by
    simp only [List.map_cons, List.cons.injEq] at h
    rw [hf _ _ h.1, map_inj hf h.2]
/-- What the laid table gives. -/
theorem tab_of_laid {W : World} {l : List (String × DataW Unit)} (hl : l = [("math/bits.deBruijn64tab", Rows.laid_math_bits_deBruijn64tab)]) (h : laidMetH Tryd.prog l W) : ∀ p ∈ tabG 0, oldF W p.1.block ∧ W.cell? p.1 = some p.2 := by
  subst hl
  rw [MakeChecks.laidMetH_plain _ _ _ (by kernel_rfl)] at h
  obtain ⟨ps, ⟨g0, t0, cs0, f0, p0, q0, hg0, ht0, hv0, hd0, _, _⟩, _, _⟩ := h
  obtain rfl := Option.some.inj (tab_name.symm.trans hg0)
  obtain rfl := Option.some.inj (tab_type.symm.trans ht0)
  obtain ⟨hlen, ys, hy, hx, hel⟩ := trod_ints Tryd.underlying161 Tryd.underlying5 (by kernel_rfl) (by kernel_rfl) hd0
  have hdB : ys = deB.map (fun n : Nat => (n : Int)) := by
    have h1 : ys.map (fun a => DataW.lit (H := Unit) (Lit.int .u8 a)) = (deB.map (fun n : Nat => (n : Int))).map (fun a => DataW.lit (Lit.int .u8 a)) := by
      have h2 := hx
      simp only at h2
      injection h2 with h3
      rw [← h3]; rfl
    have hinj : ∀ a b : Int, DataW.lit (H := Unit) (Lit.int .u8 a) = DataW.lit (Lit.int .u8 b) → a = b := fun a b e => by cases e; rfl
    exact map_inj hinj h1
  intro p hp
  obtain ⟨i, hi, rfl⟩ := List.mem_map.1 hp
  have hi := List.mem_range.1 hi
  have hys : ys[i]? = some ((deB.getD i 0 : Nat) : Int) := by
    rw [hdB, List.getElem?_map, List.getD_eq_getElem?_getD, List.getElem?_eq_getElem (by exact hi)]; rfl
  have hc := (hel i _ hys).1
  have hcell : W.cell? ⟨0, i, none⟩ = some (.int .u8 ((deB.getD i 0 : Nat) : Int)) := by
    have := World.var?_cell hg0 hv0 i
    rw [← Array.getElem?_toList, hc] at this
    simpa using this
  exact ⟨(cell_spot hcell).2, hcell⟩
end Go.Proofs.YticpndkcicgenaaDoor
