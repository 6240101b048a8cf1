/- The laws' own helper on a sparse set's size, and a copy of it. -/
import Derived.Test.YtdlbdocpofnfjaaXg3fea
import Derived.Test.YtdlbdocpofnfjaaXg3feb
import Derived.Test.YtdlbdocpofnfjaaXg3ffb
import Derived.Test.YtdlbdocpofnfjaaXpBase
import Derived.Test.YtdlbdocpofnfjaaXpInts
namespace Go.Proofs.Ytdlbdocpofnfjaa.X
open Go.RowKit Go.Proofs.YtdlbdocpofnfjaaW.PrintWords Go.Proofs.YtdlbdocpofnfjaaW.PrintLast
set_option linter.unusedVariables false
set_option linter.unusedSimpArgs false
theorem szBits_f (n : Int) (l : List Int) (a : Int) (hl : l.length ≤ 9223372036854775807) (h0 : 0 ≤ a) (h1 : a ≤ 1048576) : laws_szBits.f n l a = some (-1) ∨ (laws_szBits.f n l a = some (a - l.length) ∧ (l.length : Int) ≤ a) := by
  unfold laws_szBits.f
  rcases szIntS_f l a hl h0 h1 with h | ⟨h, hb⟩
  · left; rw [h]; rfl
  · right
    rw [h, bsome, if_neg (by omega)]
    exact ⟨rfl, hb⟩
theorem szSparse_f (n m wd nl : Int) (wl : List Int) (nh : Int) (wh : List Int) (h1 : wl.length ≤ 9223372036854775807) (h2 : wh.length ≤ 9223372036854775807) :
    laws_szSparse.f n m wd nl wl nh wh 1048576 = some (-1) ∨ ∃ t, laws_szSparse.f n m wd nl wl nh wh 1048576 = some t ∧ ¬ t < 0 ∧ wl.length ≤ 1048576 ∧ wh.length ≤ 1048576 := by
  unfold laws_szSparse.f
  rcases szBits_f nl wl 1048576 h1 (by omega) (by omega) with h | ⟨h, hb⟩
  · left; rw [h]; rfl
  · rw [h, bsome, if_neg (by omega)]
    rcases szBits_f nh wh (1048576 - wl.length) h2 (by omega) (by omega) with g | ⟨g, gb⟩
    · left; rw [g]; rfl
    · right
      rw [g, bsome, if_neg (by omega)]
      exact ⟨_, rfl, by omega, by omega, by omega⟩
theorem toSparse_F (n m wd nl : Int) (wl : List Int) (nh : Int) (wh : List Int) (h1 : wl.length ≤ 1048576) (h2 : wh.length ≤ 1048576) : laws_toSparse.F n m wd nl wl nh wh = some (n, m, wd, nl, wl, nh, wh) := by
  rw [laws_toSparse.F_eq, laws_toBits.F_eq, laws_toBits.F_eq, toIntS_F wl h1, toIntS_F wh h2]
  rfl
theorem eqSparse_F (n m wd nl : Int) (wl : List Int) (nh : Int) (wh : List Int) (h1 : wl.length ≤ 1048576) (h2 : wh.length ≤ 1048576) : laws_eqSparse.F n m wd nl wl nh wh n m wd nl wl nh wh = some true := by
  rw [laws_eqSparse.F_eq, laws_eqBits.F_eq, laws_eqBits.F_eq, eqIntS_F wl (by omega), eqIntS_F wh (by omega)]
  simp only [if_true, bsome]
end Go.Proofs.Ytdlbdocpofnfjaa.X
