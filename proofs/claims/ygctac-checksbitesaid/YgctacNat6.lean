/-
  law.emptyProducts.
-/
import Derived.Test.YgctacNat5
namespace Go.Proofs.Ygctac
open Go.RowKit
set_option linter.unusedVariables false
set_option linter.unusedSimpArgs false

theorem belowTr {w x y : World} (h : Below w.heap.size w x) (k : Below x.heap.size x y) : Below w.heap.size w y := h.trans (k.mono h.size)

set_option maxRecDepth 100000 in
set_option maxHeartbeats 4000000 in
theorem emptyProducts_any {x : Value} (w : World) (hx : NatAt w x) :
    Calls Tacg.prog 37 #[x] w fun r w' => r = .returned (.bool true) ∧ Below w.heap.size w w' := by
  obtain ⟨n, hn, hI⟩ := hx.inp
  have HI := hide hI
  clear hI hx
  go_enter Tacg.func37, Tacg.ntmps37
  go_wp2_with fail
  refine (digits_any _ HI.out).mono ?_
  rintro e w' ⟨y, rfl, hy, hw⟩
  obtain rfl := hw.symm
  have HY := hide hy
  clear hy HI
  go_wp2_with fail
  refine (take_any _ HY.out).mono ?_
  rintro e w1 ⟨z, rfl, hz, hB1⟩
  have KB := hide hB1
  clear HY hB1
  rcases hz with rfl | ⟨g, m, f, rfl, m0, m1, m2, ht, hf, hR⟩
  · have K1 := hide (KB.out.alloc KB.out.size (.cells #[] 5))
    go_wp2_with fail
    refine (mulFFT_r none 0 0 (some ⟨w1.heap.size, 0, none⟩) (by omega) _).mono ?_
    rintro e w2 ⟨rfl, hB2⟩
    have K2 := hide (belowTr K1.out hB2)
    clear hB2 K1
    go_wp2_with fail
    refine (mulNTT_l none 0 0 (some ⟨w1.heap.size, 0, none⟩) (by omega) _).mono ?_
    rintro e w3 ⟨rfl, hB3⟩
    have K3 := hide (belowTr K2.out hB3)
    clear hB3 K2
    go_wp2_with fail
    refine (school_ne w1.heap.size 0 _).mono ?_
    rintro e w4 ⟨rfl, hw⟩
    obtain rfl := hw.symm
    clear hw
    go_wp2_with fail
    refine (school_en w1.heap.size 0 _).mono ?_
    rintro e w4 ⟨rfl, hw⟩
    obtain rfl := hw.symm
    clear hw
    go_wp2_with fail
    refine (kara_ne w1.heap.size 0 _).mono ?_
    rintro e w4 ⟨rfl, hw⟩
    obtain rfl := hw.symm
    clear hw
    go_wp2_with fail
    refine (kara_en w1.heap.size 0 _).mono ?_
    rintro e w4 ⟨rfl, hw⟩
    obtain rfl := hw.symm
    clear hw
    go_wp2_with fail
    go_ret
    exact ⟨rfl, K3.out⟩
  · have h0 := hR.alloc (.cells #[] 5)
    have H0 := hide h0
    clear hR h0
    have K1 := hide (KB.out.alloc KB.out.size (.cells #[] 5))
    go_wp2_with fail
    refine (mulFFT_r (some ⟨g, 0, none⟩) m m (some ⟨w1.heap.size, 0, none⟩) (by omega) _).mono ?_
    rintro e w2 ⟨rfl, hB2⟩
    have K2 := hide (belowTr K1.out hB2)
    have H2 := hide (H0.out.below hB2 H0.out.lt)
    clear hB2 K1 H0
    go_wp2_with fail
    refine (mulNTT_l (some ⟨g, 0, none⟩) m m (some ⟨w1.heap.size, 0, none⟩) (by omega) _).mono ?_
    rintro e w3 ⟨rfl, hB3⟩
    have K3 := hide (belowTr K2.out hB3)
    have H3 := hide (H2.out.below hB3 H2.out.lt)
    clear hB3 K2 H2
    go_wp2_with fail
    refine (school_re w1.heap.size 0 g m f m0 m2 ht _ H3.out).mono ?_
    rintro e w4 ⟨rfl, hw⟩
    obtain rfl := hw.symm
    clear hw
    go_wp2_with fail
    refine (school_er w1.heap.size 0 g m f m0 m2 ht _ H3.out).mono ?_
    rintro e w4 ⟨rfl, hw⟩
    obtain rfl := hw.symm
    clear hw
    go_wp2_with fail
    refine (kara_re w1.heap.size 0 g m f m0 m2 ht _ H3.out).mono ?_
    rintro e w4 ⟨rfl, hw⟩
    obtain rfl := hw.symm
    clear hw
    go_wp2_with fail
    refine (kara_er w1.heap.size 0 g m f m0 m2 ht _ H3.out).mono ?_
    rintro e w4 ⟨rfl, hw⟩
    obtain rfl := hw.symm
    clear hw
    go_wp2_with fail
    go_ret
    exact ⟨rfl, K3.out⟩
end Go.Proofs.Ygctac
