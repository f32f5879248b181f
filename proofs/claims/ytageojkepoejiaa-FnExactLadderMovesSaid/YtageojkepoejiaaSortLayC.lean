/-
  slices.SortFunc at impl.Cell: the kit's shelf, laid at this program's numbers.
-/
import Derived.Test.YtageojkepoejiaaFacts
import Derived.Shelf.SlSortCmp.NoneTotal
namespace Go.Proofs.Ytageojkepoejiaa
open Go.RowKit Go.Shelf

def renSortC : Ren := ⟨fun k => if k = 6 then 53 else if k = 14 then 93 else if k = 15 then 88 else if k = 20 then 118 else if k = 21 then 119 else if k = 22 then 120 else if k = 23 then 121 else if k = 24 then 122 else if k = 25 then 123 else if k = 26 then 124 else if k = 27 then 125 else if k = 28 then 115 else if k = 29 then 116 else if k = 46 then 140 else if k = 47 then 136 else if k = 48 then 137 else if k = 49 then 141 else if k = 50 then 142 else if k = 57 then 158 else 0, fun k => if k = 22 then 36 else if k = 24 then 60 else if k = 25 then 68 else if k = 39 then 87 else if k = 45 then 100 else if k = 46 then 101 else if k = 50 then 105 else if k = 53 then 108 else if k = 55 then 110 else if k = 66 then 125 else if k = 70 then 129 else if k = 76 then 142 else if k = 77 then 143 else k, fun k => k⟩
theorem laysSortC : SlLaysF0.n6 Try.prog renSortC where
  mixed := by kernel_rfl
  f6 := ⟨Try.f53.name, by kernel_rfl, by kernel_rfl⟩
  f14 := ⟨Try.f93.name, by kernel_rfl, by kernel_rfl⟩
  f15 := by kernel_rfl
  f20 := ⟨Try.f118.name, by kernel_rfl, by kernel_rfl⟩
  f21 := ⟨Try.f119.name, by kernel_rfl, by kernel_rfl⟩
  f22 := ⟨Try.f120.name, by kernel_rfl, by kernel_rfl⟩
  f23 := ⟨Try.f121.name, by kernel_rfl, by kernel_rfl⟩
  f24 := ⟨Try.f122.name, by kernel_rfl, by kernel_rfl⟩
  f25 := ⟨Try.f123.name, by kernel_rfl, by kernel_rfl⟩
  f26 := ⟨Try.f124.name, by kernel_rfl, by kernel_rfl⟩
  f27 := ⟨Try.f125.name, by kernel_rfl, by kernel_rfl⟩
  f28 := by kernel_rfl
  f29 := by kernel_rfl
  f46 := ⟨Try.f140.name, by kernel_rfl, by kernel_rfl⟩
  f47 := by kernel_rfl
  f48 := by kernel_rfl
  f49 := ⟨Try.f141.name, by kernel_rfl, by kernel_rfl⟩
  f50 := ⟨Try.f142.name, by kernel_rfl, by kernel_rfl⟩
  f57 := ⟨Try.f158.name, by kernel_rfl, by kernel_rfl⟩
  t0 := by kernel_rfl
  a0 := fun w => by kernel_rfl
  z0 := fun w => by kernel_rfl
  v0 := fun w => by kernel_rfl
  t3 := by kernel_rfl
  a3 := fun w => by kernel_rfl
  z3 := fun w => by kernel_rfl
  v3 := fun w => by kernel_rfl
  t4 := by kernel_rfl
  a4 := fun w => by kernel_rfl
  z4 := fun w => by kernel_rfl
  v4 := fun w => by kernel_rfl
  t5 := by kernel_rfl
  a5 := fun w => by kernel_rfl
  z5 := fun w => by kernel_rfl
  v5 := fun w => by kernel_rfl
  t9 := by kernel_rfl
  a9 := fun w => by kernel_rfl
  z9 := fun w => by kernel_rfl
  v9 := fun w => by kernel_rfl
  t22 := by kernel_rfl
  a22 := fun w => by kernel_rfl
  z22 := fun w => by kernel_rfl
  v22 := fun w => by kernel_rfl
  t25 := by kernel_rfl
  a25 := fun w => by kernel_rfl
  z25 := fun w => by kernel_rfl
  v25 := fun w => by kernel_rfl
  t39 := by kernel_rfl
  a39 := fun w => by kernel_rfl
  z39 := fun w => by kernel_rfl
  v39 := fun w => by kernel_rfl
  t45 := by kernel_rfl
  a45 := fun w => by kernel_rfl
  z45 := fun w => by kernel_rfl
  v45 := fun w => by kernel_rfl
  t46 := by kernel_rfl
  a46 := fun w => by kernel_rfl
  z46 := fun w => by kernel_rfl
  v46 := fun w => by kernel_rfl
  t50 := by kernel_rfl
  a50 := fun w => by kernel_rfl
  z50 := fun w => by kernel_rfl
  v50 := fun w => by kernel_rfl
  t53 := by kernel_rfl
  a53 := fun w => by kernel_rfl
  z53 := fun w => by kernel_rfl
  v53 := fun w => by kernel_rfl
  t55 := by kernel_rfl
  a55 := fun w => by kernel_rfl
  z55 := fun w => by kernel_rfl
  v55 := fun w => by kernel_rfl
  t66 := by kernel_rfl
  a66 := fun w => by kernel_rfl
  z66 := fun w => by kernel_rfl
  v66 := fun w => by kernel_rfl
  t70 := by kernel_rfl
  a70 := fun w => by kernel_rfl
  z70 := fun w => by kernel_rfl
  v70 := fun w => by kernel_rfl
  t76 := by kernel_rfl
  a76 := fun w => by kernel_rfl
  z76 := fun w => by kernel_rfl
  v76 := fun w => by kernel_rfl
  t77 := by kernel_rfl
  a77 := fun w => by kernel_rfl
  z77 := fun w => by kernel_rfl
  v77 := fun w => by kernel_rfl
end Go.Proofs.Ytageojkepoejiaa
