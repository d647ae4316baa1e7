/-
  The law FrameSums: the walk, whichever row is the shortest one.
-/
import Derived.Test.YtclohcbhnlnddaaS1
import Derived.Test.YtclohcbhnlnddaaS2
import Derived.Test.YtclohcbhnlnddaaS3
namespace Go.Proofs.Ytclohcbhnlnddaa
open Go.RowKit Go.Shelf

theorem sums_big (a1 a2 a3 : Option Addr) (c1 c2 c3 m1 m2 m3 : Nat) (h1 : 100 < m1) (h2 : 100 < m2) (h3 : 100 < m3) (g1 : m1 ≤ maxLen) (g2 : m2 ≤ maxLen) (g3 : m3 ≤ maxLen) (w0 w : World) (h : Good w0 w) :
    Calls Try.prog 6 #[.slice a1 m1 c1, .slice a2 m2 c2, .slice a3 m3 c3] w fun e w' => e = .returned (.bool true) ∧ Good w0 w' := by
  unfold maxLen at g1 g2 g3
  go_enter Try.func6, Try.ntmps6
  go_wp2_with (go_at_call 9; refine (wakes_g w0 _ h).mono ?_; rintro e w' ⟨rfl, hg⟩)
  all_goals (go_ret; exact ⟨rfl, hg⟩)

theorem sums_walk (v1 : Value) (l1 : List (BitVec 8)) (_hm1 : ∀ b ∈ l1, b = b) (hn1 : l1.length ≤ maxLen) (v2 : Value) (l2 : List (BitVec 8)) (_hm2 : ∀ b ∈ l2, b = b) (hn2 : l2.length ≤ maxLen)
    (v3 : Value) (l3 : List (BitVec 8)) (_hm3 : ∀ b ∈ l3, b = b) (hn3 : l3.length ≤ maxLen) (w0 : World) (w : World) (h : Good w0 w)
    (hv1 : Bytes w v1 l1) (hv2 : Bytes w v2 l2) (hv3 : Bytes w v3 l3) :
    Calls Try.prog 6 #[v1, v2, v3] w fun e w' => e = .returned (.bool true) ∧ Good w0 w' := by
  obtain ⟨a1, c1, rfl, -⟩ := hv1.shape
  obtain ⟨a2, c2, rfl, -⟩ := hv2.shape
  obtain ⟨a3, c3, rfl, -⟩ := hv3.shape
  by_cases hA : l1.length ≤ l2.length ∧ l1.length ≤ l3.length ∧ l1.length ≤ 100
  · exact sums_a a1 a2 a3 c1 c2 c3 _ _ _ hA.1 hA.2.1 hA.2.2 l1 l2 l3 rfl rfl rfl w0 w h hv1 hv2 hv3
  by_cases hB : l2.length < l1.length ∧ l2.length ≤ l3.length ∧ l2.length ≤ 100
  · exact sums_b a1 a2 a3 c1 c2 c3 _ _ _ hB.1 hB.2.1 hB.2.2 l1 l2 l3 rfl rfl rfl w0 w h hv1 hv2 hv3
  by_cases hC : l3.length < l1.length ∧ l3.length < l2.length ∧ l3.length ≤ 100
  · exact sums_c a1 a2 a3 c1 c2 c3 _ _ _ hC.1 hC.2.1 hC.2.2 l1 l2 l3 rfl rfl rfl w0 w h hv1 hv2 hv3
  · exact sums_big a1 a2 a3 c1 c2 c3 _ _ _ (by omega) (by omega) (by omega) hn1 hn2 hn3 w0 w h
end Go.Proofs.Ytclohcbhnlnddaa
