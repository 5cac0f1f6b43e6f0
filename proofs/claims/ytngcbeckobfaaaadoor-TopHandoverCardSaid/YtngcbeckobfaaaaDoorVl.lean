/- Each plain code is its loaded function's (the test by the kernel), printed by a program of this session (gen.py). -/
import Derived.Test.YtngcbeckobfaaaaDoorProg
import Derived.Test.YtngcbeckobfaaaaDoorVzk
import Derived.Test.YtngcbeckobfaaaaDoorVc
import Derived.KernelRfl
set_option linter.unusedSimpArgs false
set_option linter.unusedVariables false
namespace Go.Vi.Tryd
open Go Go.Vi
theorem tree_or {b : Bool} {x y : Option VFunc} {v : VFunc} (h : (match b with | true => x | false => y) = some v) : x = some v ∨ y = some v := by cases b <;> simp_all
theorem tree_leaf {n k : Nat} {c v : VFunc} (h : (match Nat.beq n k with | true => some c | false => none) = some v) : n = k ∧ c = v := by
  cases hb : Nat.beq n k with
  | true => rw [hb] at h; exact ⟨Nat.eq_of_beq_eq_true hb, Option.some.inj h⟩
  | false => rw [hb] at h; cases h
theorem ok3 : chkFunc Go.Proofs.Tryd.prog 3 c3 = true := by kernel_rfl
theorem ok6 : chkFunc Go.Proofs.Tryd.prog 6 c6 = true := by kernel_rfl
theorem ok7 : chkFunc Go.Proofs.Tryd.prog 7 c7 = true := by kernel_rfl
theorem ok8 : chkFunc Go.Proofs.Tryd.prog 8 c8 = true := by kernel_rfl
theorem ok9 : chkFunc Go.Proofs.Tryd.prog 9 c9 = true := by kernel_rfl
theorem ok10 : chkFunc Go.Proofs.Tryd.prog 10 c10 = true := by kernel_rfl
theorem ok11 : chkFunc Go.Proofs.Tryd.prog 11 c11 = true := by kernel_rfl
theorem ok12 : chkFunc Go.Proofs.Tryd.prog 12 c12 = true := by kernel_rfl
theorem ok13 : chkFunc Go.Proofs.Tryd.prog 13 c13 = true := by kernel_rfl
theorem ok14 : chkFunc Go.Proofs.Tryd.prog 14 c14 = true := by kernel_rfl
theorem ok16 : chkFunc Go.Proofs.Tryd.prog 16 c16 = true := by kernel_rfl
theorem ok23 : chkFunc Go.Proofs.Tryd.prog 23 c23 = true := by kernel_rfl
theorem ok27 : chkFunc Go.Proofs.Tryd.prog 27 c27 = true := by kernel_rfl
theorem ok28 : chkFunc Go.Proofs.Tryd.prog 28 c28 = true := by kernel_rfl
theorem ok29 : chkFunc Go.Proofs.Tryd.prog 29 c29 = true := by kernel_rfl
theorem ok30 : chkFunc Go.Proofs.Tryd.prog 30 c30 = true := by kernel_rfl
theorem ok31 : chkFunc Go.Proofs.Tryd.prog 31 c31 = true := by kernel_rfl
theorem ok32 : chkFunc Go.Proofs.Tryd.prog 32 c32 = true := by kernel_rfl
theorem ok33 : chkFunc Go.Proofs.Tryd.prog 33 c33 = true := by kernel_rfl
theorem ok34 : chkFunc Go.Proofs.Tryd.prog 34 c34 = true := by kernel_rfl
theorem ok35 : chkFunc Go.Proofs.Tryd.prog 35 c35 = true := by kernel_rfl
theorem ok36 : chkFunc Go.Proofs.Tryd.prog 36 c36 = true := by kernel_rfl
theorem ok37 : chkFunc Go.Proofs.Tryd.prog 37 c37 = true := by kernel_rfl
theorem ok38 : chkFunc Go.Proofs.Tryd.prog 38 c38 = true := by kernel_rfl
theorem ok39 : chkFunc Go.Proofs.Tryd.prog 39 c39 = true := by kernel_rfl
theorem ok40 : chkFunc Go.Proofs.Tryd.prog 40 c40 = true := by kernel_rfl
theorem ok41 : chkFunc Go.Proofs.Tryd.prog 41 c41 = true := by kernel_rfl
theorem ok42 : chkFunc Go.Proofs.Tryd.prog 42 c42 = true := by kernel_rfl
theorem ok43 : chkFunc Go.Proofs.Tryd.prog 43 c43 = true := by kernel_rfl
theorem ok46 : chkFunc Go.Proofs.Tryd.prog 46 c46 = true := by kernel_rfl
theorem ok47 : chkFunc Go.Proofs.Tryd.prog 47 c47 = true := by kernel_rfl
theorem ok48 : chkFunc Go.Proofs.Tryd.prog 48 c48 = true := by kernel_rfl
theorem ok57 : chkFunc Go.Proofs.Tryd.prog 57 c57 = true := by kernel_rfl
theorem ok58 : chkFunc Go.Proofs.Tryd.prog 58 c58 = true := by kernel_rfl
theorem ok60 : chkFunc Go.Proofs.Tryd.prog 60 c60 = true := by kernel_rfl
theorem ok61 : chkFunc Go.Proofs.Tryd.prog 61 c61 = true := by kernel_rfl
theorem ok63 : chkFunc Go.Proofs.Tryd.prog 63 c63 = true := by kernel_rfl
theorem ok64 : chkFunc Go.Proofs.Tryd.prog 64 c64 = true := by kernel_rfl
theorem ok66 : chkFunc Go.Proofs.Tryd.prog 66 c66 = true := by kernel_rfl
theorem ok67 : chkFunc Go.Proofs.Tryd.prog 67 c67 = true := by kernel_rfl
theorem ok68 : chkFunc Go.Proofs.Tryd.prog 68 c68 = true := by kernel_rfl
theorem ok69 : chkFunc Go.Proofs.Tryd.prog 69 c69 = true := by kernel_rfl
theorem ok70 : chkFunc Go.Proofs.Tryd.prog 70 c70 = true := by kernel_rfl
theorem ok71 : chkFunc Go.Proofs.Tryd.prog 71 c71 = true := by kernel_rfl
theorem ok72 : chkFunc Go.Proofs.Tryd.prog 72 c72 = true := by kernel_rfl
theorem ok73 : chkFunc Go.Proofs.Tryd.prog 73 c73 = true := by kernel_rfl
theorem ok74 : chkFunc Go.Proofs.Tryd.prog 74 c74 = true := by kernel_rfl
theorem ok75 : chkFunc Go.Proofs.Tryd.prog 75 c75 = true := by kernel_rfl
theorem ok76 : chkFunc Go.Proofs.Tryd.prog 76 c76 = true := by kernel_rfl
theorem ok77 : chkFunc Go.Proofs.Tryd.prog 77 c77 = true := by kernel_rfl
theorem ok78 : chkFunc Go.Proofs.Tryd.prog 78 c78 = true := by kernel_rfl
theorem ok79 : chkFunc Go.Proofs.Tryd.prog 79 c79 = true := by kernel_rfl
theorem ok80 : chkFunc Go.Proofs.Tryd.prog 80 c80 = true := by kernel_rfl
theorem ok84 : chkFunc Go.Proofs.Tryd.prog 84 c84 = true := by kernel_rfl
theorem ok85 : chkFunc Go.Proofs.Tryd.prog 85 c85 = true := by kernel_rfl
theorem ok99 : chkFunc Go.Proofs.Tryd.prog 99 c99 = true := by kernel_rfl
theorem ok100 : chkFunc Go.Proofs.Tryd.prog 100 c100 = true := by kernel_rfl
theorem ok101 : chkFunc Go.Proofs.Tryd.prog 101 c101 = true := by kernel_rfl
theorem ok103 : chkFunc Go.Proofs.Tryd.prog 103 c103 = true := by kernel_rfl
theorem ok106 : chkFunc Go.Proofs.Tryd.prog 106 c106 = true := by kernel_rfl
theorem ok107 : chkFunc Go.Proofs.Tryd.prog 107 c107 = true := by kernel_rfl
theorem ok108 : chkFunc Go.Proofs.Tryd.prog 108 c108 = true := by kernel_rfl
theorem ok109 : chkFunc Go.Proofs.Tryd.prog 109 c109 = true := by kernel_rfl
theorem ok110 : chkFunc Go.Proofs.Tryd.prog 110 c110 = true := by kernel_rfl
theorem ok111 : chkFunc Go.Proofs.Tryd.prog 111 c111 = true := by kernel_rfl
theorem ok113 : chkFunc Go.Proofs.Tryd.prog 113 c113 = true := by kernel_rfl
theorem ok122 : chkFunc Go.Proofs.Tryd.prog 122 c122 = true := by kernel_rfl
theorem ok123 : chkFunc Go.Proofs.Tryd.prog 123 c123 = true := by kernel_rfl
theorem ok124 : chkFunc Go.Proofs.Tryd.prog 124 c124 = true := by kernel_rfl
theorem ok127 : chkFunc Go.Proofs.Tryd.prog 127 c127 = true := by kernel_rfl
theorem ok128 : chkFunc Go.Proofs.Tryd.prog 128 c128 = true := by kernel_rfl
theorem ok130 : chkFunc Go.Proofs.Tryd.prog 130 c130 = true := by kernel_rfl
theorem ok131 : chkFunc Go.Proofs.Tryd.prog 131 c131 = true := by kernel_rfl
theorem ok132 : chkFunc Go.Proofs.Tryd.prog 132 c132 = true := by kernel_rfl
theorem ok142 : chkFunc Go.Proofs.Tryd.prog 142 c142 = true := by kernel_rfl
theorem ok146 : chkFunc Go.Proofs.Tryd.prog 146 c146 = true := by kernel_rfl
theorem ok171 : chkFunc Go.Proofs.Tryd.prog 171 c171 = true := by kernel_rfl
theorem ok172 : chkFunc Go.Proofs.Tryd.prog 172 c172 = true := by kernel_rfl
theorem ok173 : chkFunc Go.Proofs.Tryd.prog 173 c173 = true := by kernel_rfl
theorem ok174 : chkFunc Go.Proofs.Tryd.prog 174 c174 = true := by kernel_rfl
theorem ok175 : chkFunc Go.Proofs.Tryd.prog 175 c175 = true := by kernel_rfl
theorem ok176 : chkFunc Go.Proofs.Tryd.prog 176 c176 = true := by kernel_rfl
theorem ok177 : chkFunc Go.Proofs.Tryd.prog 177 c177 = true := by kernel_rfl
theorem ok178 : chkFunc Go.Proofs.Tryd.prog 178 c178 = true := by kernel_rfl
theorem prog_ok : ∀ f v, prog f = some v → chkFunc Go.Proofs.Tryd.prog f v = true := fun f v =>
  (fun h => (tree_or h).elim (fun h => (tree_or h).elim (fun h => (tree_or h).elim (fun h => (tree_or h).elim (fun h => (tree_or h).elim (fun h => (tree_or h).elim (fun h => by obtain ⟨rfl, rfl⟩ := tree_leaf h; exact ok3) (fun h => by obtain ⟨rfl, rfl⟩ := tree_leaf h; exact ok6)) (fun h => (tree_or h).elim (fun h => by obtain ⟨rfl, rfl⟩ := tree_leaf h; exact ok7) (fun h => (tree_or h).elim (fun h => by obtain ⟨rfl, rfl⟩ := tree_leaf h; exact ok8) (fun h => by obtain ⟨rfl, rfl⟩ := tree_leaf h; exact ok9)))) (fun h => (tree_or h).elim (fun h => (tree_or h).elim (fun h => by obtain ⟨rfl, rfl⟩ := tree_leaf h; exact ok10) (fun h => by obtain ⟨rfl, rfl⟩ := tree_leaf h; exact ok11)) (fun h => (tree_or h).elim (fun h => by obtain ⟨rfl, rfl⟩ := tree_leaf h; exact ok12) (fun h => (tree_or h).elim (fun h => by obtain ⟨rfl, rfl⟩ := tree_leaf h; exact ok13) (fun h => by obtain ⟨rfl, rfl⟩ := tree_leaf h; exact ok14))))) (fun h => (tree_or h).elim (fun h => (tree_or h).elim (fun h => (tree_or h).elim (fun h => by obtain ⟨rfl, rfl⟩ := tree_leaf h; exact ok16) (fun h => by obtain ⟨rfl, rfl⟩ := tree_leaf h; exact ok23)) (fun h => (tree_or h).elim (fun h => by obtain ⟨rfl, rfl⟩ := tree_leaf h; exact ok27) (fun h => (tree_or h).elim (fun h => by obtain ⟨rfl, rfl⟩ := tree_leaf h; exact ok28) (fun h => by obtain ⟨rfl, rfl⟩ := tree_leaf h; exact ok29)))) (fun h => (tree_or h).elim (fun h => (tree_or h).elim (fun h => by obtain ⟨rfl, rfl⟩ := tree_leaf h; exact ok30) (fun h => (tree_or h).elim (fun h => by obtain ⟨rfl, rfl⟩ := tree_leaf h; exact ok31) (fun h => by obtain ⟨rfl, rfl⟩ := tree_leaf h; exact ok32))) (fun h => (tree_or h).elim (fun h => by obtain ⟨rfl, rfl⟩ := tree_leaf h; exact ok33) (fun h => (tree_or h).elim (fun h => by obtain ⟨rfl, rfl⟩ := tree_leaf h; exact ok34) (fun h => by obtain ⟨rfl, rfl⟩ := tree_leaf h; exact ok35)))))) (fun h => (tree_or h).elim (fun h => (tree_or h).elim (fun h => (tree_or h).elim (fun h => (tree_or h).elim (fun h => by obtain ⟨rfl, rfl⟩ := tree_leaf h; exact ok36) (fun h => by obtain ⟨rfl, rfl⟩ := tree_leaf h; exact ok37)) (fun h => (tree_or h).elim (fun h => by obtain ⟨rfl, rfl⟩ := tree_leaf h; exact ok38) (fun h => (tree_or h).elim (fun h => by obtain ⟨rfl, rfl⟩ := tree_leaf h; exact ok39) (fun h => by obtain ⟨rfl, rfl⟩ := tree_leaf h; exact ok40)))) (fun h => (tree_or h).elim (fun h => (tree_or h).elim (fun h => by obtain ⟨rfl, rfl⟩ := tree_leaf h; exact ok41) (fun h => by obtain ⟨rfl, rfl⟩ := tree_leaf h; exact ok42)) (fun h => (tree_or h).elim (fun h => by obtain ⟨rfl, rfl⟩ := tree_leaf h; exact ok43) (fun h => (tree_or h).elim (fun h => by obtain ⟨rfl, rfl⟩ := tree_leaf h; exact ok46) (fun h => by obtain ⟨rfl, rfl⟩ := tree_leaf h; exact ok47))))) (fun h => (tree_or h).elim (fun h => (tree_or h).elim (fun h => (tree_or h).elim (fun h => by obtain ⟨rfl, rfl⟩ := tree_leaf h; exact ok48) (fun h => by obtain ⟨rfl, rfl⟩ := tree_leaf h; exact ok57)) (fun h => (tree_or h).elim (fun h => by obtain ⟨rfl, rfl⟩ := tree_leaf h; exact ok58) (fun h => (tree_or h).elim (fun h => by obtain ⟨rfl, rfl⟩ := tree_leaf h; exact ok60) (fun h => by obtain ⟨rfl, rfl⟩ := tree_leaf h; exact ok61)))) (fun h => (tree_or h).elim (fun h => (tree_or h).elim (fun h => by obtain ⟨rfl, rfl⟩ := tree_leaf h; exact ok63) (fun h => (tree_or h).elim (fun h => by obtain ⟨rfl, rfl⟩ := tree_leaf h; exact ok64) (fun h => by obtain ⟨rfl, rfl⟩ := tree_leaf h; exact ok66))) (fun h => (tree_or h).elim (fun h => by obtain ⟨rfl, rfl⟩ := tree_leaf h; exact ok67) (fun h => (tree_or h).elim (fun h => by obtain ⟨rfl, rfl⟩ := tree_leaf h; exact ok68) (fun h => by obtain ⟨rfl, rfl⟩ := tree_leaf h; exact ok69))))))) (fun h => (tree_or h).elim (fun h => (tree_or h).elim (fun h => (tree_or h).elim (fun h => (tree_or h).elim (fun h => (tree_or h).elim (fun h => by obtain ⟨rfl, rfl⟩ := tree_leaf h; exact ok70) (fun h => by obtain ⟨rfl, rfl⟩ := tree_leaf h; exact ok71)) (fun h => (tree_or h).elim (fun h => by obtain ⟨rfl, rfl⟩ := tree_leaf h; exact ok72) (fun h => (tree_or h).elim (fun h => by obtain ⟨rfl, rfl⟩ := tree_leaf h; exact ok73) (fun h => by obtain ⟨rfl, rfl⟩ := tree_leaf h; exact ok74)))) (fun h => (tree_or h).elim (fun h => (tree_or h).elim (fun h => by obtain ⟨rfl, rfl⟩ := tree_leaf h; exact ok75) (fun h => by obtain ⟨rfl, rfl⟩ := tree_leaf h; exact ok76)) (fun h => (tree_or h).elim (fun h => by obtain ⟨rfl, rfl⟩ := tree_leaf h; exact ok77) (fun h => (tree_or h).elim (fun h => by obtain ⟨rfl, rfl⟩ := tree_leaf h; exact ok78) (fun h => by obtain ⟨rfl, rfl⟩ := tree_leaf h; exact ok79))))) (fun h => (tree_or h).elim (fun h => (tree_or h).elim (fun h => (tree_or h).elim (fun h => by obtain ⟨rfl, rfl⟩ := tree_leaf h; exact ok80) (fun h => by obtain ⟨rfl, rfl⟩ := tree_leaf h; exact ok84)) (fun h => (tree_or h).elim (fun h => by obtain ⟨rfl, rfl⟩ := tree_leaf h; exact ok85) (fun h => (tree_or h).elim (fun h => by obtain ⟨rfl, rfl⟩ := tree_leaf h; exact ok99) (fun h => by obtain ⟨rfl, rfl⟩ := tree_leaf h; exact ok100)))) (fun h => (tree_or h).elim (fun h => (tree_or h).elim (fun h => by obtain ⟨rfl, rfl⟩ := tree_leaf h; exact ok101) (fun h => (tree_or h).elim (fun h => by obtain ⟨rfl, rfl⟩ := tree_leaf h; exact ok103) (fun h => by obtain ⟨rfl, rfl⟩ := tree_leaf h; exact ok106))) (fun h => (tree_or h).elim (fun h => by obtain ⟨rfl, rfl⟩ := tree_leaf h; exact ok107) (fun h => (tree_or h).elim (fun h => by obtain ⟨rfl, rfl⟩ := tree_leaf h; exact ok108) (fun h => by obtain ⟨rfl, rfl⟩ := tree_leaf h; exact ok109)))))) (fun h => (tree_or h).elim (fun h => (tree_or h).elim (fun h => (tree_or h).elim (fun h => (tree_or h).elim (fun h => by obtain ⟨rfl, rfl⟩ := tree_leaf h; exact ok110) (fun h => by obtain ⟨rfl, rfl⟩ := tree_leaf h; exact ok111)) (fun h => (tree_or h).elim (fun h => by obtain ⟨rfl, rfl⟩ := tree_leaf h; exact ok113) (fun h => (tree_or h).elim (fun h => by obtain ⟨rfl, rfl⟩ := tree_leaf h; exact ok122) (fun h => by obtain ⟨rfl, rfl⟩ := tree_leaf h; exact ok123)))) (fun h => (tree_or h).elim (fun h => (tree_or h).elim (fun h => by obtain ⟨rfl, rfl⟩ := tree_leaf h; exact ok124) (fun h => by obtain ⟨rfl, rfl⟩ := tree_leaf h; exact ok127)) (fun h => (tree_or h).elim (fun h => by obtain ⟨rfl, rfl⟩ := tree_leaf h; exact ok128) (fun h => (tree_or h).elim (fun h => by obtain ⟨rfl, rfl⟩ := tree_leaf h; exact ok130) (fun h => by obtain ⟨rfl, rfl⟩ := tree_leaf h; exact ok131))))) (fun h => (tree_or h).elim (fun h => (tree_or h).elim (fun h => (tree_or h).elim (fun h => by obtain ⟨rfl, rfl⟩ := tree_leaf h; exact ok132) (fun h => by obtain ⟨rfl, rfl⟩ := tree_leaf h; exact ok142)) (fun h => (tree_or h).elim (fun h => by obtain ⟨rfl, rfl⟩ := tree_leaf h; exact ok146) (fun h => (tree_or h).elim (fun h => by obtain ⟨rfl, rfl⟩ := tree_leaf h; exact ok171) (fun h => by obtain ⟨rfl, rfl⟩ := tree_leaf h; exact ok172)))) (fun h => (tree_or h).elim (fun h => (tree_or h).elim (fun h => by obtain ⟨rfl, rfl⟩ := tree_leaf h; exact ok173) (fun h => (tree_or h).elim (fun h => by obtain ⟨rfl, rfl⟩ := tree_leaf h; exact ok174) (fun h => by obtain ⟨rfl, rfl⟩ := tree_leaf h; exact ok175))) (fun h => (tree_or h).elim (fun h => by obtain ⟨rfl, rfl⟩ := tree_leaf h; exact ok176) (fun h => (tree_or h).elim (fun h => by obtain ⟨rfl, rfl⟩ := tree_leaf h; exact ok177) (fun h => by obtain ⟨rfl, rfl⟩ := tree_leaf h; exact ok178))))))))
end Go.Vi.Tryd
