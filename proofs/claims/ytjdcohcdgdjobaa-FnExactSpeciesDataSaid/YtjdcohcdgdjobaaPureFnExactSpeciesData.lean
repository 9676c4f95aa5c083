/- What the program's SpeciesData returns is what the reference's returns, for all names of at most 1048576 bytes; longer ones the law lets by. -/
import Derived.Test.YtjdcohcdgdjobaaPFnExactSpeciesDatax1
namespace Go.Proofs.Ytjdcohcdgdjobaa.Pure
open Go.RowKit Go.Proofs.Ytjdcohcdgdjobaa.PFnExactSpeciesData Go.Proofs.YtjdcohcdgdjobaaW.PrintWords Go.Proofs.YtjdcohcdgdjobaaW.PrintLast

theorem of_toList {a : ByteArray} {l : List UInt8} (h : a.toList = l) : a = ⟨l.toArray⟩ := by
  subst h
  rw [ByteArray.toList_eq]

theorem FnExactSpeciesData : laws_FnExactSpeciesData.Pure := by
  intro a ha
  refine ⟨12, ?_⟩
  by_cases h1 : a.toList = [97, 115, 104]
  · rw [of_toList h1]; decide +kernel
  by_cases h2 : a.toList = [98, 101, 101, 99, 104]
  · rw [of_toList h2]; decide +kernel
  by_cases h3 : a.toList = [98, 105, 114, 99, 104]
  · rw [of_toList h3]; decide +kernel
  by_cases h4 : a.toList = [99, 104, 101, 114, 114, 121]
  · rw [of_toList h4]; decide +kernel
  by_cases h5 : a.toList = [101, 98, 111, 110, 121]
  · rw [of_toList h5]; decide +kernel
  by_cases h6 : a.toList = [104, 111, 108, 108, 121]
  · rw [of_toList h6]; decide +kernel
  by_cases h7 : a.toList = [109, 97, 112, 108, 101]
  · rw [of_toList h7]; decide +kernel
  by_cases h8 : a.toList = [111, 97, 107]
  · rw [of_toList h8]; decide +kernel
  by_cases h9 : a.toList = [114, 111, 115, 101, 119, 111, 111, 100]
  · rw [of_toList h9]; decide +kernel
  by_cases h10 : a.toList = [119, 97, 108, 110, 117, 116]
  · rw [of_toList h10]; decide +kernel
  have n1 : ¬ ([97, 115, 104] : List UInt8) = a.toList := fun h => h1 h.symm
  have n2 : ¬ ([98, 101, 101, 99, 104] : List UInt8) = a.toList := fun h => h2 h.symm
  have n3 : ¬ ([98, 105, 114, 99, 104] : List UInt8) = a.toList := fun h => h3 h.symm
  have n4 : ¬ ([99, 104, 101, 114, 114, 121] : List UInt8) = a.toList := fun h => h4 h.symm
  have n5 : ¬ ([101, 98, 111, 110, 121] : List UInt8) = a.toList := fun h => h5 h.symm
  have n6 : ¬ ([104, 111, 108, 108, 121] : List UInt8) = a.toList := fun h => h6 h.symm
  have n7 : ¬ ([109, 97, 112, 108, 101] : List UInt8) = a.toList := fun h => h7 h.symm
  have n8 : ¬ ([111, 97, 107] : List UInt8) = a.toList := fun h => h8 h.symm
  have n9 : ¬ ([114, 111, 115, 101, 119, 111, 111, 100] : List UInt8) = a.toList := fun h => h9 h.symm
  have n10 : ¬ ([119, 97, 108, 110, 117, 116] : List UInt8) = a.toList := fun h => h10 h.symm
  have hs : spec_SpeciesData.f 12 a = some (0, 0, 0, 3) := by
    unfold spec_SpeciesData.f spec_l07Find.f spec_l07Names.f
    simp [spec_l07Find.l0, rdOf, wrap64, n1, n2, n3, n4, n5, n6, n7, n8, n9, n10]
  have hi : impl_SpeciesData.f a = some (0, 0, 0, 3) := by
    unfold impl_SpeciesData.f
    rw [if_neg h1, if_neg h2, if_neg h3, if_neg h4, if_neg h5, if_neg h6, if_neg h7, if_neg h8, if_neg h9, if_neg h10]
  unfold laws_FnExactSpeciesData.f
  rw [hs, hi]
  simp

end Go.Proofs.Ytjdcohcdgdjobaa.Pure
