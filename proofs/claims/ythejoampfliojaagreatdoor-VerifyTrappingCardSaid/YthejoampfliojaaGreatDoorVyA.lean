/-
  The contracts of the verifier and what it uses (written by our own gen_vya.py).
-/
import Derived.Test.YthejoampfliojaaGreatDoorChecked
import Derived.Test.YthejoampfliojaaGreatDoorVyS
import Derived.Test.YthejoampfliojaaGreatDoorVyR
import Derived.Test.YthejoampfliojaaGreatDoorSzAJ
namespace Go.Proofs.YthejoampfliojaaGreatDoor
open Go Go.Sy Go.Sz Go.Vy Go.Proofs.YthejoampfliojaaGreatDoor
set_option linter.unusedVariables false
set_option linter.unusedSimpArgs false
set_option linter.constructorNameAsVariable false
set_option maxRecDepth 100000

noncomputable abbrev S_v15 : Summ := sumE [] false Tryz.prog (lkC []) 400 Tryz.f15 (Tryz.f15.body.getD .skip) []
theorem ok_v15 : SummOk Kn Tryz.prog 15 S_v15 := sumE_ok (tok_cl (lk_nil Kn Tryz.prog)) Tryz.checked.mixed Tryz.func15 (by kernel_rfl) (by rfl) 400 []   -- barbican/barbicanref3.trimmed
noncomputable def L_v15 : List (Nat × Summ) := (15, S_v15) :: []
theorem tok_v15 : TOk Kn Tryz.prog (lk L_v15) := lk_cons ok_v15 (lk_nil Kn Tryz.prog)

noncomputable abbrev S_v37 : Summ := sumE [] false Tryz.prog (lkC L_v15) 400 Tryz.f37 (Tryz.f37.body.getD .skip) []
theorem ok_v37 : SummOk Kn Tryz.prog 37 S_v37 := sumE_ok (tok_cl tok_v15) Tryz.checked.mixed Tryz.func37 (by kernel_rfl) (by rfl) 400 []   -- barbican/barbicanref3.words
noncomputable def L_v37 : List (Nat × Summ) := (37, S_v37) :: L_v15
theorem tok_v37 : TOk Kn Tryz.prog (lk L_v37) := lk_cons ok_v37 tok_v15

noncomputable abbrev S_v100 : Summ := sumE [] false Tryz.prog (lkC L_v37) 400 Tryz.f100 (Tryz.f100.body.getD .skip) []
theorem ok_v100 : SummOk Kn Tryz.prog 100 S_v100 := sumE_ok (tok_cl tok_v37) Tryz.checked.mixed Tryz.func100 (by kernel_rfl) (by rfl) 400 []   -- barbican/barbicanref3.plain
noncomputable def L_v100 : List (Nat × Summ) := (100, S_v100) :: L_v37
theorem tok_v100 : TOk Kn Tryz.prog (lk L_v100) := lk_cons ok_v100 tok_v37

noncomputable abbrev S_v98 : Summ := sumE [] false Tryz.prog (lkC L_v100) 400 Tryz.f98 (Tryz.f98.body.getD .skip) []
theorem ok_v98 : SummOk Kn Tryz.prog 98 S_v98 := sumE_ok (tok_cl tok_v100) Tryz.checked.mixed Tryz.func98 (by kernel_rfl) (by rfl) 400 []   -- barbican/barbicanref3.number
noncomputable def L_v98 : List (Nat × Summ) := (98, S_v98) :: L_v100
theorem tok_v98 : TOk Kn Tryz.prog (lk L_v98) := lk_cons ok_v98 tok_v100

noncomputable abbrev S_v38 : Summ := sumE [] false Tryz.prog (lkC L_v98) 400 Tryz.f38 (Tryz.f38.body.getD .skip) []
theorem ok_v38 : SummOk Kn Tryz.prog 38 S_v38 := sumE_ok (tok_cl tok_v98) Tryz.checked.mixed Tryz.func38 (by kernel_rfl) (by rfl) 400 []   -- barbican/barbicanref3.off
noncomputable def L_v38 : List (Nat × Summ) := (38, S_v38) :: L_v98
theorem tok_v38 : TOk Kn Tryz.prog (lk L_v38) := lk_cons ok_v38 tok_v98

noncomputable abbrev S_v39 : Summ := sumE [] false Tryz.prog (lkC L_v38) 400 Tryz.f39 (Tryz.f39.body.getD .skip) []
theorem ok_v39 : SummOk Kn Tryz.prog 39 S_v39 := sumE_ok (tok_cl tok_v38) Tryz.checked.mixed Tryz.func39 (by kernel_rfl) (by rfl) 400 []   -- barbican/barbicanref3.imm
noncomputable def L_v39 : List (Nat × Summ) := (39, S_v39) :: L_v38
theorem tok_v39 : TOk Kn Tryz.prog (lk L_v39) := lk_cons ok_v39 tok_v38

noncomputable abbrev S_v99 : Summ := sumE [] false Tryz.prog (lkC L_v39) 400 Tryz.f99 (Tryz.f99.body.getD .skip) []
theorem ok_v99 : SummOk Kn Tryz.prog 99 S_v99 := sumE_ok (tok_cl tok_v39) Tryz.checked.mixed Tryz.func99 (by kernel_rfl) (by rfl) 400 []   -- barbican/barbicanref3.cmpSign
noncomputable def L_v99 : List (Nat × Summ) := (99, S_v99) :: L_v39
theorem tok_v99 : TOk Kn Tryz.prog (lk L_v99) := lk_cons ok_v99 tok_v39

noncomputable abbrev S_v42 : Summ := sumE [] false Tryz.prog (lkC L_v99) 400 Tryz.f42 (Tryz.f42.body.getD .skip) []
theorem ok_v42 : SummOk Kn Tryz.prog 42 S_v42 := sumE_ok (tok_cl tok_v99) Tryz.checked.mixed Tryz.func42 (by kernel_rfl) (by rfl) 400 []   -- barbican/barbicanref3.register
noncomputable def L_v42 : List (Nat × Summ) := (42, S_v42) :: L_v99
theorem tok_v42 : TOk Kn Tryz.prog (lk L_v42) := lk_cons ok_v42 tok_v99

noncomputable abbrev S_v40 : Summ := sumE [] false Tryz.prog (lkC L_v42) 400 Tryz.f40 (Tryz.f40.body.getD .skip) []
theorem ok_v40 : SummOk Kn Tryz.prog 40 S_v40 := sumE_ok (tok_cl tok_v42) Tryz.checked.mixed Tryz.func40 (by kernel_rfl) (by rfl) 400 []   -- barbican/barbicanref3.compare
noncomputable def L_v40 : List (Nat × Summ) := (40, S_v40) :: L_v42
theorem tok_v40 : TOk Kn Tryz.prog (lk L_v40) := lk_cons ok_v40 tok_v42

noncomputable abbrev S_v41 : Summ := sumE [] false Tryz.prog (lkC L_v40) 400 Tryz.f41 (Tryz.f41.body.getD .skip) []
theorem ok_v41 : SummOk Kn Tryz.prog 41 S_v41 := sumE_ok (tok_cl tok_v40) Tryz.checked.mixed Tryz.func41 (by kernel_rfl) (by rfl) 400 []   -- barbican/barbicanref3.place
noncomputable def L_v41 : List (Nat × Summ) := (41, S_v41) :: L_v40
theorem tok_v41 : TOk Kn Tryz.prog (lk L_v41) := lk_cons ok_v41 tok_v40

noncomputable abbrev S_v182 : Summ := sumE [] false Tryz.prog (lkC L_v41) 400 Tryz.f182 (Tryz.f182.body.getD .skip) []
theorem ok_v182 : SummOk Kn Tryz.prog 182 S_v182 := sumE_ok (tok_cl tok_v41) Tryz.checked.mixed Tryz.func182 (by kernel_rfl) (by rfl) 400 []   -- barbican/barbicanref3.Plain
noncomputable def L_v182 : List (Nat × Summ) := (182, S_v182) :: L_v41
theorem tok_v182 : TOk Kn Tryz.prog (lk L_v182) := lk_cons ok_v182 tok_v41

noncomputable abbrev S_v144 : Summ := sumE [] false Tryz.prog (lkC L_v182) 400 Tryz.f144 (Tryz.f144.body.getD .skip) []
theorem ok_v144 : SummOk Kn Tryz.prog 144 S_v144 := sumE_ok (tok_cl tok_v182) Tryz.checked.mixed Tryz.func144 (by kernel_rfl) (by rfl) 400 []   -- barbican/barbicanref3.Number
noncomputable def L_v144 : List (Nat × Summ) := (144, S_v144) :: L_v182
theorem tok_v144 : TOk Kn Tryz.prog (lk L_v144) := lk_cons ok_v144 tok_v182

noncomputable abbrev S_v101 : Summ := sumE [] false Tryz.prog (lkC L_v144) 400 Tryz.f101 (Tryz.f101.body.getD .skip) []
theorem ok_v101 : SummOk Kn Tryz.prog 101 S_v101 := sumE_ok (tok_cl tok_v144) Tryz.checked.mixed Tryz.func101 (by kernel_rfl) (by rfl) 400 []   -- barbican/barbicanref3.special
noncomputable def L_v101 : List (Nat × Summ) := (101, S_v101) :: L_v144
theorem tok_v101 : TOk Kn Tryz.prog (lk L_v101) := lk_cons ok_v101 tok_v144

noncomputable abbrev S_v102 : Summ := sumE [] false Tryz.prog (lkC L_v101) 400 Tryz.f102 (Tryz.f102.body.getD .skip) []
theorem ok_v102 : SummOk Kn Tryz.prog 102 S_v102 := sumE_ok (tok_cl tok_v101) Tryz.checked.mixed Tryz.func102 (by kernel_rfl) (by rfl) 400 []   -- barbican/barbicanref3.aluSign
noncomputable def L_v102 : List (Nat × Summ) := (102, S_v102) :: L_v101
theorem tok_v102 : TOk Kn Tryz.prog (lk L_v102) := lk_cons ok_v102 tok_v101

noncomputable abbrev S_v43 : Summ := sumE [] false Tryz.prog (lkC L_v102) 400 Tryz.f43 (Tryz.f43.body.getD .skip) []
theorem ok_v43 : SummOk Kn Tryz.prog 43 S_v43 := sumE_ok (tok_cl tok_v102) Tryz.checked.mixed Tryz.func43 (by kernel_rfl) (by rfl) 400 []   -- barbican/barbicanref3.assign
noncomputable def L_v43 : List (Nat × Summ) := (43, S_v43) :: L_v102
theorem tok_v43 : TOk Kn Tryz.prog (lk L_v43) := lk_cons ok_v43 tok_v102

noncomputable abbrev S_v16 : Summ := sumE [] false Tryz.prog (lkC L_v43) 400 Tryz.f16 (Tryz.f16.body.getD .skip) []
theorem ok_v16 : SummOk Kn Tryz.prog 16 S_v16 := sumE_ok (tok_cl tok_v43) Tryz.checked.mixed Tryz.func16 (by kernel_rfl) (by rfl) 400 []   -- barbican/barbicanref3.one
noncomputable def L_v16 : List (Nat × Summ) := (16, S_v16) :: L_v43
theorem tok_v16 : TOk Kn Tryz.prog (lk L_v16) := lk_cons ok_v16 tok_v43

noncomputable abbrev S_v11 : Summ := sumE [] false Tryz.prog (lkC L_v16) 400 Tryz.f11 (Tryz.f11.body.getD .skip) []
theorem ok_v11 : SummOk Kn Tryz.prog 11 S_v11 := sumE_ok (tok_cl tok_v16) Tryz.checked.mixed Tryz.func11 (by kernel_rfl) (by rfl) 400 []   -- barbican/barbicanref3.Parse
noncomputable def L_v11 : List (Nat × Summ) := (11, S_v11) :: L_v16
theorem tok_v11 : TOk Kn Tryz.prog (lk L_v11) := lk_cons ok_v11 tok_v16

noncomputable abbrev S_v9 : Summ := sumE [] false Tryz.prog (lkC L_v11) 400 Tryz.f9 (Tryz.f9.body.getD .skip) []
theorem ok_v9 : SummOk Kn Tryz.prog 9 S_v9 := sumE_ok (tok_cl tok_v11) Tryz.checked.mixed Tryz.func9 (by kernel_rfl) (by rfl) 400 []   -- barbican/barbicanref17.lines
noncomputable def L_v9 : List (Nat × Summ) := (9, S_v9) :: L_v11
theorem tok_v9 : TOk Kn Tryz.prog (lk L_v9) := lk_cons ok_v9 tok_v11

noncomputable abbrev S_v6 : Summ := sumE [] false Tryz.prog (lkC L_v9) 400 Tryz.f6 (Tryz.f6.body.getD .skip) []
theorem ok_v6 : SummOk Kn Tryz.prog 6 S_v6 := sumE_ok (tok_cl tok_v9) Tryz.checked.mixed Tryz.func6 (by kernel_rfl) (by rfl) 400 []   -- barbican/barbicanref17.Of
noncomputable def L_v6 : List (Nat × Summ) := (6, S_v6) :: L_v9
theorem tok_v6 : TOk Kn Tryz.prog (lk L_v6) := lk_cons ok_v6 tok_v9

noncomputable abbrev S_v145 : Summ := sumE [] false Tryz.prog (lkC L_v6) 400 Tryz.f145 (Tryz.f145.body.getD .skip) []
theorem ok_v145 : SummOk Kn Tryz.prog 145 S_v145 := sumE_ok (tok_cl tok_v6) Tryz.checked.mixed Tryz.func145 (by kernel_rfl) (by rfl) 400 []   -- barbican/btf.named
noncomputable def L_v145 : List (Nat × Summ) := (145, S_v145) :: L_v6
theorem tok_v145 : TOk Kn Tryz.prog (lk L_v145) := lk_cons ok_v145 tok_v6

noncomputable abbrev S_v117 : Summ := sumE [] false Tryz.prog (lkC L_v145) 400 Tryz.f117 (Tryz.f117.body.getD .skip) []
theorem ok_v117 : SummOk Kn Tryz.prog 117 S_v117 := sumE_ok (tok_cl tok_v145) Tryz.checked.mixed Tryz.func117 (by kernel_rfl) (by rfl) 400 []   -- barbican/btf.letter
noncomputable def L_v117 : List (Nat × Summ) := (117, S_v117) :: L_v145
theorem tok_v117 : TOk Kn Tryz.prog (lk L_v117) := lk_cons ok_v117 tok_v145

noncomputable abbrev S_v59 : Summ := sumE [] false Tryz.prog (lkC L_v117) 400 Tryz.f59 (Tryz.f59.body.getD .skip) []
theorem ok_v59 : SummOk Kn Tryz.prog 59 S_v59 := sumE_ok (tok_cl tok_v117) Tryz.checked.mixed Tryz.func59 (by kernel_rfl) (by rfl) 400 []   -- barbican/btf.Name
noncomputable def L_v59 : List (Nat × Summ) := (59, S_v59) :: L_v117
theorem tok_v59 : TOk Kn Tryz.prog (lk L_v59) := lk_cons ok_v59 tok_v117

noncomputable abbrev S_v103 : Summ := sumE [] false Tryz.prog (lkC L_v59) 400 Tryz.f103 (Tryz.f103.body.getD .skip) []
theorem ok_v103 : SummOk Kn Tryz.prog 103 S_v103 := sumE_ok (tok_cl tok_v59) Tryz.checked.mixed Tryz.func103 (by kernel_rfl) (by rfl) 400 []   -- barbican/btf.called
noncomputable def L_v103 : List (Nat × Summ) := (103, S_v103) :: L_v59
theorem tok_v103 : TOk Kn Tryz.prog (lk L_v103) := lk_cons ok_v103 tok_v59

noncomputable abbrev S_v104 : Summ := sumE [] false Tryz.prog (lkC L_v103) 400 Tryz.f104 (Tryz.f104.body.getD .skip) []
theorem ok_v104 : SummOk Kn Tryz.prog 104 S_v104 := sumE_ok (tok_cl tok_v103) Tryz.checked.mixed Tryz.func104 (by kernel_rfl) (by rfl) 400 []   -- barbican/btf.sized
noncomputable def L_v104 : List (Nat × Summ) := (104, S_v104) :: L_v103
theorem tok_v104 : TOk Kn Tryz.prog (lk L_v104) := lk_cons ok_v104 tok_v103

noncomputable abbrev S_v105 : Summ := sumE [] false Tryz.prog (lkC L_v104) 400 Tryz.f105 (Tryz.f105.body.getD .skip) []
theorem ok_v105 : SummOk Kn Tryz.prog 105 S_v105 := sumE_ok (tok_cl tok_v104) Tryz.checked.mixed Tryz.func105 (by kernel_rfl) (by rfl) 400 []   -- barbican/btf.members
noncomputable def L_v105 : List (Nat × Summ) := (105, S_v105) :: L_v104
theorem tok_v105 : TOk Kn Tryz.prog (lk L_v105) := lk_cons ok_v105 tok_v104

noncomputable abbrev S_v106 : Summ := sumE [] false Tryz.prog (lkC L_v105) 400 Tryz.f106 (Tryz.f106.body.getD .skip) []
theorem ok_v106 : SummOk Kn Tryz.prog 106 S_v106 := sumE_ok (tok_cl tok_v105) Tryz.checked.mixed Tryz.func106 (by kernel_rfl) (by rfl) 400 []   -- barbican/btf.whole
noncomputable def L_v106 : List (Nat × Summ) := (106, S_v106) :: L_v105
theorem tok_v106 : TOk Kn Tryz.prog (lk L_v106) := lk_cons ok_v106 tok_v105

noncomputable abbrev S_v44 : Summ := sumE [] false Tryz.prog (lkC L_v106) 400 Tryz.f44 (Tryz.f44.body.getD .skip) []
theorem ok_v44 : SummOk Kn Tryz.prog 44 S_v44 := sumE_ok (tok_cl tok_v106) Tryz.checked.mixed Tryz.func44 (by kernel_rfl) (by rfl) 400 []   -- barbican/btf.alone
noncomputable def L_v44 : List (Nat × Summ) := (44, S_v44) :: L_v106
theorem tok_v44 : TOk Kn Tryz.prog (lk L_v44) := lk_cons ok_v44 tok_v106

noncomputable abbrev S_v108 : Summ := sumE [] false Tryz.prog (lkC L_v44) 400 Tryz.f108 (Tryz.f108.body.getD .skip) []
theorem ok_v108 : SummOk Kn Tryz.prog 108 S_v108 := sumE_ok (tok_cl tok_v44) Tryz.checked.mixed Tryz.func108 (by kernel_rfl) (by rfl) 400 []   -- barbican/btf.holds
noncomputable def L_v108 : List (Nat × Summ) := (108, S_v108) :: L_v44
theorem tok_v108 : TOk Kn Tryz.prog (lk L_v108) := lk_cons ok_v108 tok_v44

noncomputable abbrev S_v107 : Summ := sumE [] false Tryz.prog (lkC L_v108) 400 Tryz.f107 (Tryz.f107.body.getD .skip) []
theorem ok_v107 : SummOk Kn Tryz.prog 107 S_v107 := sumE_ok (tok_cl tok_v108) Tryz.checked.mixed Tryz.func107 (by kernel_rfl) (by rfl) 400 []   -- barbican/btf.round$1
noncomputable def L_v107 : List (Nat × Summ) := (107, S_v107) :: L_v108
theorem tok_v107 : TOk Kn Tryz.prog (lk L_v107) := lk_cons ok_v107 tok_v108

noncomputable abbrev S_v46 : Summ := sumE [] false Tryz.prog (lkC L_v107) 400 Tryz.f46 (Tryz.f46.body.getD .skip) []
theorem ok_v46 : SummOk Kn Tryz.prog 46 S_v46 := sumE_ok (tok_cl tok_v107) Tryz.checked.mixed Tryz.func46 (by kernel_rfl) (by rfl) 400 []   -- barbican/btf.round
noncomputable def L_v46 : List (Nat × Summ) := (46, S_v46) :: L_v107
theorem tok_v46 : TOk Kn Tryz.prog (lk L_v46) := lk_cons ok_v46 tok_v107

noncomputable abbrev S_v45 : Summ := sumE [] false Tryz.prog (lkC L_v46) 400 Tryz.f45 (Tryz.f45.body.getD .skip) []
theorem ok_v45 : SummOk Kn Tryz.prog 45 S_v45 := sumE_ok (tok_cl tok_v46) Tryz.checked.mixed Tryz.func45 (by kernel_rfl) (by rfl) 400 []   -- barbican/btf.Check$1
noncomputable def L_v45 : List (Nat × Summ) := (45, S_v45) :: L_v46
theorem tok_v45 : TOk Kn Tryz.prog (lk L_v45) := lk_cons ok_v45 tok_v46

noncomputable abbrev S_v109 : Summ := sumE [] false Tryz.prog (lkC L_v45) 400 Tryz.f109 (Tryz.f109.body.getD .skip) []
theorem ok_v109 : SummOk Kn Tryz.prog 109 S_v109 := sumE_ok (tok_cl tok_v45) Tryz.checked.mixed Tryz.func109 (by kernel_rfl) (by rfl) 400 []   -- barbican/btf.through
noncomputable def L_v109 : List (Nat × Summ) := (109, S_v109) :: L_v45
theorem tok_v109 : TOk Kn Tryz.prog (lk L_v109) := lk_cons ok_v109 tok_v45

noncomputable abbrev S_v48 : Summ := sumE [] false Tryz.prog (lkC L_v109) 400 Tryz.f48 (Tryz.f48.body.getD .skip) []
theorem ok_v48 : SummOk Kn Tryz.prog 48 S_v48 := sumE_ok (tok_cl tok_v109) Tryz.checked.mixed Tryz.func48 (by kernel_rfl) (by rfl) 400 []   -- barbican/btf.functions
noncomputable def L_v48 : List (Nat × Summ) := (48, S_v48) :: L_v109
theorem tok_v48 : TOk Kn Tryz.prog (lk L_v48) := lk_cons ok_v48 tok_v109

noncomputable abbrev S_v47 : Summ := sumE [] false Tryz.prog (lkC L_v48) 400 Tryz.f47 (Tryz.f47.body.getD .skip) []
theorem ok_v47 : SummOk Kn Tryz.prog 47 S_v47 := sumE_ok (tok_cl tok_v48) Tryz.checked.mixed Tryz.func47 (by kernel_rfl) (by rfl) 400 []   -- barbican/btf.Check$2
noncomputable def L_v47 : List (Nat × Summ) := (47, S_v47) :: L_v48
theorem tok_v47 : TOk Kn Tryz.prog (lk L_v47) := lk_cons ok_v47 tok_v48

noncomputable abbrev S_v110 : Summ := sumE [] false Tryz.prog (lkC L_v47) 400 Tryz.f110 (Tryz.f110.body.getD .skip) []
theorem ok_v110 : SummOk Kn Tryz.prog 110 S_v110 := sumE_ok (tok_cl tok_v47) Tryz.checked.mixed Tryz.func110 (by kernel_rfl) (by rfl) 400 []   -- barbican/btf.size
noncomputable def L_v110 : List (Nat × Summ) := (110, S_v110) :: L_v47
theorem tok_v110 : TOk Kn Tryz.prog (lk L_v110) := lk_cons ok_v110 tok_v47

noncomputable abbrev S_v50 : Summ := sumE [] false Tryz.prog (lkC L_v110) 400 Tryz.f50 (Tryz.f50.body.getD .skip) []
theorem ok_v50 : SummOk Kn Tryz.prog 50 S_v50 := sumE_ok (tok_cl tok_v110) Tryz.checked.mixed Tryz.func50 (by kernel_rfl) (by rfl) 400 []   -- barbican/btf.laid
noncomputable def L_v50 : List (Nat × Summ) := (50, S_v50) :: L_v110
theorem tok_v50 : TOk Kn Tryz.prog (lk L_v50) := lk_cons ok_v50 tok_v110

noncomputable abbrev S_v49 : Summ := sumE [] false Tryz.prog (lkC L_v50) 400 Tryz.f49 (Tryz.f49.body.getD .skip) []
theorem ok_v49 : SummOk Kn Tryz.prog 49 S_v49 := sumE_ok (tok_cl tok_v50) Tryz.checked.mixed Tryz.func49 (by kernel_rfl) (by rfl) 400 []   -- barbican/btf.Check$3
noncomputable def L_v49 : List (Nat × Summ) := (49, S_v49) :: L_v50
theorem tok_v49 : TOk Kn Tryz.prog (lk L_v49) := lk_cons ok_v49 tok_v50

noncomputable abbrev S_v17 : Summ := sumE [] false Tryz.prog (lkC L_v49) 400 Tryz.f17 (Tryz.f17.body.getD .skip) []
theorem ok_v17 : SummOk Kn Tryz.prog 17 S_v17 := sumE_ok (tok_cl tok_v49) Tryz.checked.mixed Tryz.func17 (by kernel_rfl) (by rfl) 400 []   -- barbican/btf.Check
noncomputable def L_v17 : List (Nat × Summ) := (17, S_v17) :: L_v49
theorem tok_v17 : TOk Kn Tryz.prog (lk L_v17) := lk_cons ok_v17 tok_v49

noncomputable abbrev S_v54 : Summ := sumE [] false Tryz.prog (lkC L_v17) 400 Tryz.f54 (Tryz.f54.body.getD .skip) []
theorem ok_v54 : SummOk Kn Tryz.prog 54 S_v54 := sumE_ok (tok_cl tok_v17) Tryz.checked.mixed Tryz.func54 (by kernel_rfl) (by rfl) 400 []   -- barbican/object.in
noncomputable def L_v54 : List (Nat × Summ) := (54, S_v54) :: L_v17
theorem tok_v54 : TOk Kn Tryz.prog (lk L_v54) := lk_cons ok_v54 tok_v17

noncomputable abbrev S_v146 : Summ := sumE [] false Tryz.prog (lkC L_v54) 400 Tryz.f146 (Tryz.f146.body.getD .skip) []
theorem ok_v146 : SummOk Kn Tryz.prog 146 S_v146 := sumE_ok (tok_cl tok_v54) Tryz.checked.mixed Tryz.func146 (by kernel_rfl) (by rfl) 400 []   -- barbican/btf.Resolve
noncomputable def L_v146 : List (Nat × Summ) := (146, S_v146) :: L_v54
theorem tok_v146 : TOk Kn Tryz.prog (lk L_v146) := lk_cons ok_v146 tok_v54

noncomputable abbrev S_v111 : Summ := sumE [] false Tryz.prog (lkC L_v146) 400 Tryz.f111 (Tryz.f111.body.getD .skip) []
theorem ok_v111 : SummOk Kn Tryz.prog 111 S_v111 := sumE_ok (tok_cl tok_v146) Tryz.checked.mixed Tryz.func111 (by kernel_rfl) (by rfl) 400 []   -- barbican/btf.Size
noncomputable def L_v111 : List (Nat × Summ) := (111, S_v111) :: L_v146
theorem tok_v111 : TOk Kn Tryz.prog (lk L_v111) := lk_cons ok_v111 tok_v146

noncomputable abbrev S_v52 : Summ := sumE [] false Tryz.prog (lkC L_v111) 400 Tryz.f52 (Tryz.f52.body.getD .skip) []
theorem ok_v52 : SummOk Kn Tryz.prog 52 S_v52 := sumE_ok (tok_cl tok_v111) Tryz.checked.mixed Tryz.func52 (by kernel_rfl) (by rfl) 400 []   -- barbican/object.valued
noncomputable def L_v52 : List (Nat × Summ) := (52, S_v52) :: L_v111
theorem tok_v52 : TOk Kn Tryz.prog (lk L_v52) := lk_cons ok_v52 tok_v111

noncomputable abbrev S_v51 : Summ := sumE [] false Tryz.prog (lkC L_v52) 400 Tryz.f51 (Tryz.f51.body.getD .skip) []
theorem ok_v51 : SummOk Kn Tryz.prog 51 S_v51 := sumE_ok (tok_cl tok_v52) Tryz.checked.mixed Tryz.func51 (by kernel_rfl) (by rfl) 400 []   -- barbican/object.Def$1
noncomputable def L_v51 : List (Nat × Summ) := (51, S_v51) :: L_v52
theorem tok_v51 : TOk Kn Tryz.prog (lk L_v51) := lk_cons ok_v51 tok_v52

noncomputable abbrev S_v53 : Summ := sumE [] false Tryz.prog (lkC L_v51) 400 Tryz.f53 (Tryz.f53.body.getD .skip) []
theorem ok_v53 : SummOk Kn Tryz.prog 53 S_v53 := sumE_ok (tok_cl tok_v51) Tryz.checked.mixed Tryz.func53 (by kernel_rfl) (by rfl) 400 []   -- barbican/object.Def$2
noncomputable def L_v53 : List (Nat × Summ) := (53, S_v53) :: L_v51
theorem tok_v53 : TOk Kn Tryz.prog (lk L_v53) := lk_cons ok_v53 tok_v51

noncomputable abbrev S_v56 : Summ := sumE [] false Tryz.prog (lkC L_v53) 400 Tryz.f56 (Tryz.f56.body.getD .skip) []
theorem ok_v56 : SummOk Kn Tryz.prog 56 S_v56 := sumE_ok (tok_cl tok_v53) Tryz.checked.mixed Tryz.func56 (by kernel_rfl) (by rfl) 400 []   -- barbican/object.bare
noncomputable def L_v56 : List (Nat × Summ) := (56, S_v56) :: L_v53
theorem tok_v56 : TOk Kn Tryz.prog (lk L_v56) := lk_cons ok_v56 tok_v53

noncomputable abbrev S_v55 : Summ := sumE [] false Tryz.prog (lkC L_v56) 400 Tryz.f55 (Tryz.f55.body.getD .skip) []
theorem ok_v55 : SummOk Kn Tryz.prog 55 S_v55 := sumE_ok (tok_cl tok_v56) Tryz.checked.mixed Tryz.func55 (by kernel_rfl) (by rfl) 400 []   -- barbican/object.Def$3
noncomputable def L_v55 : List (Nat × Summ) := (55, S_v55) :: L_v56
theorem tok_v55 : TOk Kn Tryz.prog (lk L_v55) := lk_cons ok_v55 tok_v56

noncomputable abbrev S_v57 : Summ := sumE [] false Tryz.prog (lkC L_v55) 400 Tryz.f57 (Tryz.f57.body.getD .skip) []
theorem ok_v57 : SummOk Kn Tryz.prog 57 S_v57 := sumE_ok (tok_cl tok_v55) Tryz.checked.mixed Tryz.func57 (by kernel_rfl) (by rfl) 400 []   -- barbican/object.Def$4
noncomputable def L_v57 : List (Nat × Summ) := (57, S_v57) :: L_v55
theorem tok_v57 : TOk Kn Tryz.prog (lk L_v57) := lk_cons ok_v57 tok_v55

noncomputable abbrev S_v18 : Summ := sumE [] false Tryz.prog (lkC L_v57) 400 Tryz.f18 (Tryz.f18.body.getD .skip) []
theorem ok_v18 : SummOk Kn Tryz.prog 18 S_v18 := sumE_ok (tok_cl tok_v57) Tryz.checked.mixed Tryz.func18 (by kernel_rfl) (by rfl) 400 []   -- barbican/object.Def
noncomputable def L_v18 : List (Nat × Summ) := (18, S_v18) :: L_v57
theorem tok_v18 : TOk Kn Tryz.prog (lk L_v18) := lk_cons ok_v18 tok_v57

noncomputable abbrev S_v92 : Summ := sumE [] false Tryz.prog (lkC L_v18) 400 Tryz.f92 (Tryz.f92.body.getD .skip) []
theorem ok_v92 : SummOk Kn Tryz.prog 92 S_v92 := sumE_ok (tok_cl tok_v18) Tryz.checked.mixed Tryz.func92 (by kernel_rfl) (by rfl) 400 []   -- barbican/insn.Second
noncomputable def L_v92 : List (Nat × Summ) := (92, S_v92) :: L_v18
theorem tok_v92 : TOk Kn Tryz.prog (lk L_v92) := lk_cons ok_v92 tok_v18

noncomputable abbrev S_v188 : Summ := sumE [] false Tryz.prog (lkC L_v92) 400 Tryz.f188 (Tryz.f188.body.getD .skip) []
theorem ok_v188 : SummOk Kn Tryz.prog 188 S_v188 := sumE_ok (tok_cl tok_v92) Tryz.checked.mixed Tryz.func188 (by kernel_rfl) (by rfl) 400 []   -- barbican/insn.class
noncomputable def L_v188 : List (Nat × Summ) := (188, S_v188) :: L_v92
theorem tok_v188 : TOk Kn Tryz.prog (lk L_v188) := lk_cons ok_v188 tok_v92

noncomputable abbrev S_v189 : Summ := sumE [] false Tryz.prog (lkC L_v188) 400 Tryz.f189 (Tryz.f189.body.getD .skip) []
theorem ok_v189 : SummOk Kn Tryz.prog 189 S_v189 := sumE_ok (tok_cl tok_v188) Tryz.checked.mixed Tryz.func189 (by kernel_rfl) (by rfl) 400 []   -- barbican/insn.code
noncomputable def L_v189 : List (Nat × Summ) := (189, S_v189) :: L_v188
theorem tok_v189 : TOk Kn Tryz.prog (lk L_v189) := lk_cons ok_v189 tok_v188

noncomputable abbrev S_v270 : Summ := sumE [] false Tryz.prog (lkC L_v189) 400 Tryz.f270 (Tryz.f270.body.getD .skip) []
theorem ok_v270 : SummOk Kn Tryz.prog 270 S_v270 := sumE_ok (tok_cl tok_v189) Tryz.checked.mixed Tryz.func270 (by kernel_rfl) (by rfl) 400 []   -- barbican/insn.operand
noncomputable def L_v270 : List (Nat × Summ) := (270, S_v270) :: L_v189
theorem tok_v270 : TOk Kn Tryz.prog (lk L_v270) := lk_cons ok_v270 tok_v189

noncomputable abbrev S_v213 : Summ := sumE [] false Tryz.prog (lkC L_v270) 400 Tryz.f213 (Tryz.f213.body.getD .skip) []
theorem ok_v213 : SummOk Kn Tryz.prog 213 S_v213 := sumE_ok (tok_cl tok_v270) Tryz.checked.mixed Tryz.func213 (by kernel_rfl) (by rfl) 400 []   -- barbican/insn.arith
noncomputable def L_v213 : List (Nat × Summ) := (213, S_v213) :: L_v270
theorem tok_v213 : TOk Kn Tryz.prog (lk L_v213) := lk_cons ok_v213 tok_v270

noncomputable abbrev S_v214 : Summ := sumE [] false Tryz.prog (lkC L_v213) 400 Tryz.f214 (Tryz.f214.body.getD .skip) []
theorem ok_v214 : SummOk Kn Tryz.prog 214 S_v214 := sumE_ok (tok_cl tok_v213) Tryz.checked.mixed Tryz.func214 (by kernel_rfl) (by rfl) 400 []   -- barbican/insn.jump
noncomputable def L_v214 : List (Nat × Summ) := (214, S_v214) :: L_v213
theorem tok_v214 : TOk Kn Tryz.prog (lk L_v214) := lk_cons ok_v214 tok_v213

noncomputable abbrev S_v215 : Summ := sumE [] false Tryz.prog (lkC L_v214) 400 Tryz.f215 (Tryz.f215.body.getD .skip) []
theorem ok_v215 : SummOk Kn Tryz.prog 215 S_v215 := sumE_ok (tok_cl tok_v214) Tryz.checked.mixed Tryz.func215 (by kernel_rfl) (by rfl) 400 []   -- barbican/insn.memory
noncomputable def L_v215 : List (Nat × Summ) := (215, S_v215) :: L_v214
theorem tok_v215 : TOk Kn Tryz.prog (lk L_v215) := lk_cons ok_v215 tok_v214

noncomputable abbrev S_v183 : Summ := sumE [] false Tryz.prog (lkC L_v215) 400 Tryz.f183 (Tryz.f183.body.getD .skip) []
theorem ok_v183 : SummOk Kn Tryz.prog 183 S_v183 := sumE_ok (tok_cl tok_v215) Tryz.checked.mixed Tryz.func183 (by kernel_rfl) (by rfl) 400 []   -- barbican/insn.Known
noncomputable def L_v183 : List (Nat × Summ) := (183, S_v183) :: L_v215
theorem tok_v183 : TOk Kn Tryz.prog (lk L_v183) := lk_cons ok_v183 tok_v215

noncomputable abbrev S_v184 : Summ := sumE [] false Tryz.prog (lkC L_v183) 400 Tryz.f184 (Tryz.f184.body.getD .skip) []
theorem ok_v184 : SummOk Kn Tryz.prog 184 S_v184 := sumE_ok (tok_cl tok_v183) Tryz.checked.mixed Tryz.func184 (by kernel_rfl) (by rfl) 400 []   -- barbican/insn.writes
noncomputable def L_v184 : List (Nat × Summ) := (184, S_v184) :: L_v183
theorem tok_v184 : TOk Kn Tryz.prog (lk L_v184) := lk_cons ok_v184 tok_v183

noncomputable abbrev S_v185 : Summ := sumE [] false Tryz.prog (lkC L_v184) 400 Tryz.f185 (Tryz.f185.body.getD .skip) []
theorem ok_v185 : SummOk Kn Tryz.prog 185 S_v185 := sumE_ok (tok_cl tok_v184) Tryz.checked.mixed Tryz.func185 (by kernel_rfl) (by rfl) 400 []   -- barbican/insn.whole
noncomputable def L_v185 : List (Nat × Summ) := (185, S_v185) :: L_v184
theorem tok_v185 : TOk Kn Tryz.prog (lk L_v185) := lk_cons ok_v185 tok_v184

noncomputable abbrev S_v148 : Summ := sumE [] false Tryz.prog (lkC L_v185) 400 Tryz.f148 (Tryz.f148.body.getD .skip) []
theorem ok_v148 : SummOk Kn Tryz.prog 148 S_v148 := sumE_ok (tok_cl tok_v185) Tryz.checked.mixed Tryz.func148 (by kernel_rfl) (by rfl) 400 []   -- barbican/insn.calls
noncomputable def L_v148 : List (Nat × Summ) := (148, S_v148) :: L_v185
theorem tok_v148 : TOk Kn Tryz.prog (lk L_v148) := lk_cons ok_v148 tok_v185

noncomputable abbrev S_v147 : Summ := sumE [] false Tryz.prog (lkC L_v148) 400 Tryz.f147 (Tryz.f147.body.getD .skip) []
theorem ok_v147 : SummOk Kn Tryz.prog 147 S_v147 := sumE_ok (tok_cl tok_v148) Tryz.checked.mixed Tryz.func147 (by kernel_rfl) (by rfl) 400 []   -- barbican/insn.wrong
noncomputable def L_v147 : List (Nat × Summ) := (147, S_v147) :: L_v148
theorem tok_v147 : TOk Kn Tryz.prog (lk L_v147) := lk_cons ok_v147 tok_v148

noncomputable abbrev S_v112 : Summ := sumE [] false Tryz.prog (lkC L_v147) 400 Tryz.f112 (Tryz.f112.body.getD .skip) []
theorem ok_v112 : SummOk Kn Tryz.prog 112 S_v112 := sumE_ok (tok_cl tok_v147) Tryz.checked.mixed Tryz.func112 (by kernel_rfl) (by rfl) 400 []   -- barbican/insn.slots
noncomputable def L_v112 : List (Nat × Summ) := (112, S_v112) :: L_v147
theorem tok_v112 : TOk Kn Tryz.prog (lk L_v112) := lk_cons ok_v112 tok_v147

noncomputable abbrev S_v225 : Summ := sumE [] false Tryz.prog (lkC L_v112) 400 Tryz.f225 (Tryz.f225.body.getD .skip) []
theorem ok_v225 : SummOk Kn Tryz.prog 225 S_v225 := sumE_ok (tok_cl tok_v112) Tryz.checked.mixed Tryz.func225 (by kernel_rfl) (by rfl) 400 []   -- math/bits.Len32
noncomputable def L_v225 : List (Nat × Summ) := (225, S_v225) :: L_v112
theorem tok_v225 : TOk Kn Tryz.prog (lk L_v225) := lk_cons ok_v225 tok_v112

noncomputable abbrev S_v226 : Summ := sumE [] false Tryz.prog (lkC L_v225) 400 Tryz.f226 (Tryz.f226.body.getD .skip) []
theorem ok_v226 : SummOk Kn Tryz.prog 226 S_v226 := sumE_ok (tok_cl tok_v225) Tryz.checked.mixed Tryz.func226 (by kernel_rfl) (by rfl) 400 []   -- math/bits.Len64
noncomputable def L_v226 : List (Nat × Summ) := (226, S_v226) :: L_v225
theorem tok_v226 : TOk Kn Tryz.prog (lk L_v226) := lk_cons ok_v226 tok_v225

noncomputable abbrev S_v187 : Summ := sumE [] false Tryz.prog (lkC L_v226) 400 Tryz.f187 (Tryz.f187.body.getD .skip) []
theorem ok_v187 : SummOk Kn Tryz.prog 187 S_v187 := sumE_ok (tok_cl tok_v226) Tryz.checked.mixed Tryz.func187 (by kernel_rfl) (by rfl) 400 []   -- math/bits.Len
noncomputable def L_v187 : List (Nat × Summ) := (187, S_v187) :: L_v226
theorem tok_v187 : TOk Kn Tryz.prog (lk L_v187) := lk_cons ok_v187 tok_v226

noncomputable abbrev S_v276 : Summ := sumE [] false Tryz.prog (lkC L_v187) 400 Tryz.f276 (Tryz.f276.body.getD .skip) []
theorem ok_v276 : SummOk Kn Tryz.prog 276 S_v276 := sumE_ok (tok_cl tok_v187) Tryz.checked.mixed Tryz.func276 (by kernel_rfl) (by rfl) 400 []   -- cmp.isNaN[int]
noncomputable def L_v276 : List (Nat × Summ) := (276, S_v276) :: L_v187
theorem tok_v276 : TOk Kn Tryz.prog (lk L_v276) := lk_cons ok_v276 tok_v187

noncomputable abbrev S_v222 : Summ := sumE [] false Tryz.prog (lkC L_v276) 400 Tryz.f222 (Tryz.f222.body.getD .skip) []
theorem ok_v222 : SummOk Kn Tryz.prog 222 S_v222 := sumE_ok (tok_cl tok_v276) Tryz.checked.mixed Tryz.func222 (by kernel_rfl) (by rfl) 400 []   -- cmp.Less[int]
noncomputable def L_v222 : List (Nat × Summ) := (222, S_v222) :: L_v276
theorem tok_v222 : TOk Kn Tryz.prog (lk L_v222) := lk_cons ok_v222 tok_v276

noncomputable abbrev S_v216 : Summ := sumE [] false Tryz.prog (lkC L_v222) 400 Tryz.f216 (Tryz.f216.body.getD .skip) []
theorem ok_v216 : SummOk Kn Tryz.prog 216 S_v216 := sumE_ok (tok_cl tok_v222) Tryz.checked.mixed Tryz.func216 (by kernel_rfl) (by rfl) 400 []   -- slices.insertionSortOrdered[int]
noncomputable def L_v216 : List (Nat × Summ) := (216, S_v216) :: L_v222
theorem tok_v216 : TOk Kn Tryz.prog (lk L_v216) := lk_cons ok_v216 tok_v222

noncomputable abbrev S_v271 : Summ := sumE [] false Tryz.prog (lkC L_v216) 400 Tryz.f271 (Tryz.f271.body.getD .skip) []
theorem ok_v271 : SummOk Kn Tryz.prog 271 S_v271 := sumE_ok (tok_cl tok_v216) Tryz.checked.mixed Tryz.func271 (by kernel_rfl) (by rfl) 400 []   -- slices.siftDownOrdered[int]
noncomputable def L_v271 : List (Nat × Summ) := (271, S_v271) :: L_v216
theorem tok_v271 : TOk Kn Tryz.prog (lk L_v271) := lk_cons ok_v271 tok_v216

noncomputable abbrev S_v217 : Summ := sumE [] false Tryz.prog (lkC L_v271) 400 Tryz.f217 (Tryz.f217.body.getD .skip) []
theorem ok_v217 : SummOk Kn Tryz.prog 217 S_v217 := sumE_ok (tok_cl tok_v271) Tryz.checked.mixed Tryz.func217 (by kernel_rfl) (by rfl) 400 []   -- slices.heapSortOrdered[int]
noncomputable def L_v217 : List (Nat × Summ) := (217, S_v217) :: L_v271
theorem tok_v217 : TOk Kn Tryz.prog (lk L_v217) := lk_cons ok_v217 tok_v271

noncomputable abbrev S_v272 : Summ := sumE [] false Tryz.prog (lkC L_v217) 400 Tryz.f272 (Tryz.f272.body.getD .skip) []
theorem ok_v272 : SummOk Kn Tryz.prog 272 S_v272 := sumE_ok (tok_cl tok_v217) Tryz.checked.mixed Tryz.func272 (by kernel_rfl) (by rfl) 400 []   -- slices.nextPowerOfTwo
noncomputable def L_v272 : List (Nat × Summ) := (272, S_v272) :: L_v217
theorem tok_v272 : TOk Kn Tryz.prog (lk L_v272) := lk_cons ok_v272 tok_v217

noncomputable abbrev S_v273 : Summ := sumE [] false Tryz.prog (lkC L_v272) 400 Tryz.f273 (Tryz.f273.body.getD .skip) []
theorem ok_v273 : SummOk Kn Tryz.prog 273 S_v273 := sumE_ok (tok_cl tok_v272) Tryz.checked.mixed Tryz.func273 (by kernel_rfl) (by rfl) 400 []   -- (*slices.xorshift).Next
noncomputable def L_v273 : List (Nat × Summ) := (273, S_v273) :: L_v272
theorem tok_v273 : TOk Kn Tryz.prog (lk L_v273) := lk_cons ok_v273 tok_v272

noncomputable abbrev S_v218 : Summ := sumE [] false Tryz.prog (lkC L_v273) 400 Tryz.f218 (Tryz.f218.body.getD .skip) []
theorem ok_v218 : SummOk Kn Tryz.prog 218 S_v218 := sumE_ok (tok_cl tok_v273) Tryz.checked.mixed Tryz.func218 (by kernel_rfl) (by rfl) 400 []   -- slices.breakPatternsOrdered[int]
noncomputable def L_v218 : List (Nat × Summ) := (218, S_v218) :: L_v273
theorem tok_v218 : TOk Kn Tryz.prog (lk L_v218) := lk_cons ok_v218 tok_v273

noncomputable abbrev S_v320 : Summ := sumE [] false Tryz.prog (lkC L_v218) 400 Tryz.f320 (Tryz.f320.body.getD .skip) []
theorem ok_v320 : SummOk Kn Tryz.prog 320 S_v320 := sumE_ok (tok_cl tok_v218) Tryz.checked.mixed Tryz.func320 (by kernel_rfl) (by rfl) 400 []   -- slices.order2Ordered[int]
noncomputable def L_v320 : List (Nat × Summ) := (320, S_v320) :: L_v218
theorem tok_v320 : TOk Kn Tryz.prog (lk L_v320) := lk_cons ok_v320 tok_v218

noncomputable abbrev S_v275 : Summ := sumE [] false Tryz.prog (lkC L_v320) 400 Tryz.f275 (Tryz.f275.body.getD .skip) []
theorem ok_v275 : SummOk Kn Tryz.prog 275 S_v275 := sumE_ok (tok_cl tok_v320) Tryz.checked.mixed Tryz.func275 (by kernel_rfl) (by rfl) 400 []   -- slices.medianOrdered[int]
noncomputable def L_v275 : List (Nat × Summ) := (275, S_v275) :: L_v320
theorem tok_v275 : TOk Kn Tryz.prog (lk L_v275) := lk_cons ok_v275 tok_v320

noncomputable abbrev S_v274 : Summ := sumE [] false Tryz.prog (lkC L_v275) 400 Tryz.f274 (Tryz.f274.body.getD .skip) []
theorem ok_v274 : SummOk Kn Tryz.prog 274 S_v274 := sumE_ok (tok_cl tok_v275) Tryz.checked.mixed Tryz.func274 (by kernel_rfl) (by rfl) 400 []   -- slices.medianAdjacentOrdered[int]
noncomputable def L_v274 : List (Nat × Summ) := (274, S_v274) :: L_v275
theorem tok_v274 : TOk Kn Tryz.prog (lk L_v274) := lk_cons ok_v274 tok_v275

noncomputable abbrev S_v219 : Summ := sumE [] false Tryz.prog (lkC L_v274) 400 Tryz.f219 (Tryz.f219.body.getD .skip) []
theorem ok_v219 : SummOk Kn Tryz.prog 219 S_v219 := sumE_ok (tok_cl tok_v274) Tryz.checked.mixed Tryz.func219 (by kernel_rfl) (by rfl) 400 []   -- slices.choosePivotOrdered[int]
noncomputable def L_v219 : List (Nat × Summ) := (219, S_v219) :: L_v274
theorem tok_v219 : TOk Kn Tryz.prog (lk L_v219) := lk_cons ok_v219 tok_v274

noncomputable abbrev S_v220 : Summ := sumE [] false Tryz.prog (lkC L_v219) 400 Tryz.f220 (Tryz.f220.body.getD .skip) []
theorem ok_v220 : SummOk Kn Tryz.prog 220 S_v220 := sumE_ok (tok_cl tok_v219) Tryz.checked.mixed Tryz.func220 (by kernel_rfl) (by rfl) 400 []   -- slices.reverseRangeOrdered[int]
noncomputable def L_v220 : List (Nat × Summ) := (220, S_v220) :: L_v219
theorem tok_v220 : TOk Kn Tryz.prog (lk L_v220) := lk_cons ok_v220 tok_v219

noncomputable abbrev S_v221 : Summ := sumE [] false Tryz.prog (lkC L_v220) 400 Tryz.f221 (Tryz.f221.body.getD .skip) []
theorem ok_v221 : SummOk Kn Tryz.prog 221 S_v221 := sumE_ok (tok_cl tok_v220) Tryz.checked.mixed Tryz.func221 (by kernel_rfl) (by rfl) 400 []   -- slices.partialInsertionSortOrdered[int]
noncomputable def L_v221 : List (Nat × Summ) := (221, S_v221) :: L_v220
theorem tok_v221 : TOk Kn Tryz.prog (lk L_v221) := lk_cons ok_v221 tok_v220

noncomputable abbrev S_v223 : Summ := sumE [] false Tryz.prog (lkC L_v221) 400 Tryz.f223 (Tryz.f223.body.getD .skip) []
theorem ok_v223 : SummOk Kn Tryz.prog 223 S_v223 := sumE_ok (tok_cl tok_v221) Tryz.checked.mixed Tryz.func223 (by kernel_rfl) (by rfl) 400 []   -- slices.partitionEqualOrdered[int]
noncomputable def L_v223 : List (Nat × Summ) := (223, S_v223) :: L_v221
theorem tok_v223 : TOk Kn Tryz.prog (lk L_v223) := lk_cons ok_v223 tok_v221

noncomputable abbrev S_v224 : Summ := sumE [] false Tryz.prog (lkC L_v223) 400 Tryz.f224 (Tryz.f224.body.getD .skip) []
theorem ok_v224 : SummOk Kn Tryz.prog 224 S_v224 := sumE_ok (tok_cl tok_v223) Tryz.checked.mixed Tryz.func224 (by kernel_rfl) (by rfl) 400 []   -- slices.partitionOrdered[int]
noncomputable def L_v224 : List (Nat × Summ) := (224, S_v224) :: L_v223
theorem tok_v224 : TOk Kn Tryz.prog (lk L_v224) := lk_cons ok_v224 tok_v223

noncomputable abbrev S_v186 : Summ := sumE [] false Tryz.prog (lkC L_v224) 400 Tryz.f186 (Tryz.f186.body.getD .skip) []
theorem ok_v186 : SummOk Kn Tryz.prog 186 S_v186 := sumE_ok (tok_cl tok_v224) Tryz.checked.mixed Tryz.func186 (by kernel_rfl) (by rfl) 400 []   -- slices.pdqsortOrdered[int]
noncomputable def L_v186 : List (Nat × Summ) := (186, S_v186) :: L_v224
theorem tok_v186 : TOk Kn Tryz.prog (lk L_v186) := lk_cons ok_v186 tok_v224

noncomputable abbrev S_v149 : Summ := sumE [] false Tryz.prog (lkC L_v186) 400 Tryz.f149 (Tryz.f149.body.getD .skip) []
theorem ok_v149 : SummOk Kn Tryz.prog 149 S_v149 := sumE_ok (tok_cl tok_v186) Tryz.checked.mixed Tryz.func149 (by kernel_rfl) (by rfl) 400 []   -- slices.Sort[[]int,int]
noncomputable def L_v149 : List (Nat × Summ) := (149, S_v149) :: L_v186
theorem tok_v149 : TOk Kn Tryz.prog (lk L_v149) := lk_cons ok_v149 tok_v186

noncomputable abbrev S_v150 : Summ := sumE [] false Tryz.prog (lkC L_v149) 400 Tryz.f150 (Tryz.f150.body.getD .skip) []
theorem ok_v150 : SummOk Kn Tryz.prog 150 S_v150 := sumE_ok (tok_cl tok_v149) Tryz.checked.mixed Tryz.func150 (by kernel_rfl) (by rfl) 400 []   -- slices.Compact[[]int,int]
noncomputable def L_v150 : List (Nat × Summ) := (150, S_v150) :: L_v149
theorem tok_v150 : TOk Kn Tryz.prog (lk L_v150) := lk_cons ok_v150 tok_v149

noncomputable abbrev S_v114 : Summ := sumE [] false Tryz.prog (lkC L_v150) 400 Tryz.f114 (Tryz.f114.body.getD .skip) []
theorem ok_v114 : SummOk Kn Tryz.prog 114 S_v114 := sumE_ok (tok_cl tok_v150) Tryz.checked.mixed Tryz.func114 (by kernel_rfl) (by rfl) 400 []   -- barbican/insn.begins
noncomputable def L_v114 : List (Nat × Summ) := (114, S_v114) :: L_v150
theorem tok_v114 : TOk Kn Tryz.prog (lk L_v114) := lk_cons ok_v114 tok_v150

noncomputable abbrev S_v113 : Summ := sumE [] false Tryz.prog (lkC L_v114) 400 Tryz.f113 (Tryz.f113.body.getD .skip) []
theorem ok_v113 : SummOk Kn Tryz.prog 113 S_v113 := sumE_ok (tok_cl tok_v114) Tryz.checked.mixed Tryz.func113 (by kernel_rfl) (by rfl) 400 []   -- barbican/insn.split
noncomputable def L_v113 : List (Nat × Summ) := (113, S_v113) :: L_v114
theorem tok_v113 : TOk Kn Tryz.prog (lk L_v113) := lk_cons ok_v113 tok_v114

noncomputable abbrev S_v115 : Summ := sumE [] false Tryz.prog (lkC L_v113) 400 Tryz.f115 (Tryz.f115.body.getD .skip) []
theorem ok_v115 : SummOk Kn Tryz.prog 115 S_v115 := sumE_ok (tok_cl tok_v113) Tryz.checked.mixed Tryz.func115 (by kernel_rfl) (by rfl) 400 []   -- barbican/insn.ended
noncomputable def L_v115 : List (Nat × Summ) := (115, S_v115) :: L_v113
theorem tok_v115 : TOk Kn Tryz.prog (lk L_v115) := lk_cons ok_v115 tok_v113

noncomputable abbrev S_v151 : Summ := sumE [] false Tryz.prog (lkC L_v115) 400 Tryz.f151 (Tryz.f151.body.getD .skip) []
theorem ok_v151 : SummOk Kn Tryz.prog 151 S_v151 := sumE_ok (tok_cl tok_v115) Tryz.checked.mixed Tryz.func151 (by kernel_rfl) (by rfl) 400 []   -- barbican/insn.jumps
noncomputable def L_v151 : List (Nat × Summ) := (151, S_v151) :: L_v115
theorem tok_v151 : TOk Kn Tryz.prog (lk L_v151) := lk_cons ok_v151 tok_v115

noncomputable abbrev S_v116 : Summ := sumE [] false Tryz.prog (lkC L_v151) 400 Tryz.f116 (Tryz.f116.body.getD .skip) []
theorem ok_v116 : SummOk Kn Tryz.prog 116 S_v116 := sumE_ok (tok_cl tok_v151) Tryz.checked.mixed Tryz.func116 (by kernel_rfl) (by rfl) 400 []   -- barbican/insn.leads
noncomputable def L_v116 : List (Nat × Summ) := (116, S_v116) :: L_v151
theorem tok_v116 : TOk Kn Tryz.prog (lk L_v116) := lk_cons ok_v116 tok_v151

noncomputable abbrev S_v58 : Summ := sumE [] false Tryz.prog (lkC L_v116) 400 Tryz.f58 (Tryz.f58.body.getD .skip) []
theorem ok_v58 : SummOk Kn Tryz.prog 58 S_v58 := sumE_ok (tok_cl tok_v116) Tryz.checked.mixed Tryz.func58 (by kernel_rfl) (by rfl) 400 []   -- barbican/insn.Check
noncomputable def L_v58 : List (Nat × Summ) := (58, S_v58) :: L_v116
theorem tok_v58 : TOk Kn Tryz.prog (lk L_v58) := lk_cons ok_v58 tok_v116

noncomputable abbrev S_v60 : Summ := sumE [] false Tryz.prog (lkC L_v58) 400 Tryz.f60 (Tryz.f60.body.getD .skip) []
theorem ok_v60 : SummOk Kn Tryz.prog 60 S_v60 := sumE_ok (tok_cl tok_v58) Tryz.checked.mixed Tryz.func60 (by kernel_rfl) (by rfl) 400 []   -- barbican/object.loads
noncomputable def L_v60 : List (Nat × Summ) := (60, S_v60) :: L_v58
theorem tok_v60 : TOk Kn Tryz.prog (lk L_v60) := lk_cons ok_v60 tok_v58

noncomputable abbrev S_v19 : Summ := sumE [] false Tryz.prog (lkC L_v60) 400 Tryz.f19 (Tryz.f19.body.getD .skip) []
theorem ok_v19 : SummOk Kn Tryz.prog 19 S_v19 := sumE_ok (tok_cl tok_v60) Tryz.checked.mixed Tryz.func19 (by kernel_rfl) (by rfl) 400 []   -- barbican/object.programs
noncomputable def L_v19 : List (Nat × Summ) := (19, S_v19) :: L_v60
theorem tok_v19 : TOk Kn Tryz.prog (lk L_v19) := lk_cons ok_v19 tok_v60

noncomputable abbrev S_v12 : Summ := sumE [] false Tryz.prog (lkC L_v19) 400 Tryz.f12 (Tryz.f12.body.getD .skip) []
theorem ok_v12 : SummOk Kn Tryz.prog 12 S_v12 := sumE_ok (tok_cl tok_v19) Tryz.checked.mixed Tryz.func12 (by kernel_rfl) (by rfl) 400 []   -- barbican/object.Check
noncomputable def L_v12 : List (Nat × Summ) := (12, S_v12) :: L_v19
theorem tok_v12 : TOk Kn Tryz.prog (lk L_v12) := lk_cons ok_v12 tok_v19

noncomputable abbrev S_v61 : Summ := sumE [] false Tryz.prog (lkC L_v12) 400 Tryz.f61 (Tryz.f61.body.getD .skip) []
theorem ok_v61 : SummOk Kn Tryz.prog 61 S_v61 := sumE_ok (tok_cl tok_v12) Tryz.checked.mixed Tryz.func61 (by kernel_rfl) (by rfl) 400 []   -- barbican/verify.valueOf
noncomputable def L_v61 : List (Nat × Summ) := (61, S_v61) :: L_v12
theorem tok_v61 : TOk Kn Tryz.prog (lk L_v61) := lk_cons ok_v61 tok_v12

noncomputable abbrev S_v95 : Summ := sumE [] false Tryz.prog (lkC L_v61) 400 Tryz.f95 (Tryz.f95.body.getD .skip) []
theorem ok_v95 : SummOk Kn Tryz.prog 95 S_v95 := sumE_ok (tok_cl tok_v61) Tryz.checked.mixed Tryz.func95 (by kernel_rfl) (by rfl) 400 []   -- barbican/tnum.Const
noncomputable def L_v95 : List (Nat × Summ) := (95, S_v95) :: L_v61
theorem tok_v95 : TOk Kn Tryz.prog (lk L_v95) := lk_cons ok_v95 tok_v61

noncomputable abbrev S_v34 : Summ := sumE [] false Tryz.prog (lkC L_v95) 400 Tryz.f34 (Tryz.f34.body.getD .skip) []
theorem ok_v34 : SummOk Kn Tryz.prog 34 S_v34 := sumE_ok (tok_cl tok_v95) Tryz.checked.mixed Tryz.func34 (by kernel_rfl) (by rfl) 400 []   -- barbican/scalar.Const
noncomputable def L_v34 : List (Nat × Summ) := (34, S_v34) :: L_v95
theorem tok_v34 : TOk Kn Tryz.prog (lk L_v34) := lk_cons ok_v34 tok_v95

noncomputable abbrev S_v65 : Summ := sumE [] false Tryz.prog (lkC L_v34) 400 Tryz.f65 (Tryz.f65.body.getD .skip) []
theorem ok_v65 : SummOk Kn Tryz.prog 65 S_v65 := sumE_ok (tok_cl tok_v34) Tryz.checked.mixed Tryz.func65 (by kernel_rfl) (by rfl) 400 []   -- (*barbican/verify.state).adds
noncomputable def L_v65 : List (Nat × Summ) := (65, S_v65) :: L_v34
theorem tok_v65 : TOk Kn Tryz.prog (lk L_v65) := lk_cons ok_v65 tok_v34

noncomputable abbrev S_v64 : Summ := sumE [] false Tryz.prog (lkC L_v65) 400 Tryz.f64 (Tryz.f64.body.getD .skip) []
theorem ok_v64 : SummOk Kn Tryz.prog 64 S_v64 := sumE_ok (tok_cl tok_v65) Tryz.checked.mixed Tryz.func64 (by kernel_rfl) (by rfl) 400 []   -- (*barbican/verify.helped).lookup$1
noncomputable def L_v64 : List (Nat × Summ) := (64, S_v64) :: L_v65
theorem tok_v64 : TOk Kn Tryz.prog (lk L_v64) := lk_cons ok_v64 tok_v65

noncomputable abbrev S_v70 : Summ := sumE [] false Tryz.prog (lkC L_v64) 400 Tryz.f70 (Tryz.f70.body.getD .skip) []
theorem ok_v70 : SummOk Kn Tryz.prog 70 S_v70 := sumE_ok (tok_cl tok_v64) Tryz.checked.mixed Tryz.func70 (by kernel_rfl) (by rfl) 400 []   -- barbican/verify.constant
noncomputable def L_v70 : List (Nat × Summ) := (70, S_v70) :: L_v64
theorem tok_v70 : TOk Kn Tryz.prog (lk L_v70) := lk_cons ok_v70 tok_v64

noncomputable abbrev S_v63 : Summ := sumE [] false Tryz.prog (lkC L_v70) 400 Tryz.f63 (Tryz.f63.body.getD .skip) []
theorem ok_v63 : SummOk Kn Tryz.prog 63 S_v63 := sumE_ok (tok_cl tok_v70) Tryz.checked.mixed Tryz.func63 (by kernel_rfl) (by rfl) 400 []   -- barbican/verify.none
noncomputable def L_v63 : List (Nat × Summ) := (63, S_v63) :: L_v70
theorem tok_v63 : TOk Kn Tryz.prog (lk L_v63) := lk_cons ok_v63 tok_v70

noncomputable abbrev S_v121 : Summ := sumE [] false Tryz.prog (lkC L_v63) 400 Tryz.f121 (Tryz.f121.body.getD .skip) []
theorem ok_v121 : SummOk Kn Tryz.prog 121 S_v121 := sumE_ok (tok_cl tok_v63) Tryz.checked.mixed Tryz.func121 (by kernel_rfl) (by rfl) 400 []   -- slices.Clone[[]barbican/verify.area,barbican/verify.area]
noncomputable def L_v121 : List (Nat × Summ) := (121, S_v121) :: L_v63
theorem tok_v121 : TOk Kn Tryz.prog (lk L_v121) := lk_cons ok_v121 tok_v63

theorem ok_v154 : SummOk Kn Tryz.prog 154 cloneX := clone_okX Tryz.func154 (by kernel_rfl) (by kernel_rfl) (by kernel_rfl) (by kernel_rfl)   -- maps.clone
noncomputable def L_v154 : List (Nat × Summ) := (154, cloneX) :: L_v121
theorem tok_v154 : TOk Kn Tryz.prog (lk L_v154) := lk_cons ok_v154 tok_v121

noncomputable abbrev S_v122 : Summ := sumE [] false Tryz.prog (lkC L_v154) 400 Tryz.f122 (Tryz.f122.body.getD .skip) []
theorem ok_v122 : SummOk Kn Tryz.prog 122 S_v122 := sumE_ok (tok_cl tok_v154) Tryz.checked.mixed Tryz.func122 (by kernel_rfl) (by rfl) 400 []   -- maps.Clone[map[int]int,int,int]
noncomputable def L_v122 : List (Nat × Summ) := (122, S_v122) :: L_v154
theorem tok_v122 : TOk Kn Tryz.prog (lk L_v122) := lk_cons ok_v122 tok_v154

noncomputable abbrev S_v123 : Summ := sumE [] false Tryz.prog (lkC L_v122) 400 Tryz.f123 (Tryz.f123.body.getD .skip) []
theorem ok_v123 : SummOk Kn Tryz.prog 123 S_v123 := sumE_ok (tok_cl tok_v122) Tryz.checked.mixed Tryz.func123 (by kernel_rfl) (by rfl) 400 []   -- maps.Clone[map[int]barbican/verify.tag,int,barbican/verify.tag]
noncomputable def L_v123 : List (Nat × Summ) := (123, S_v123) :: L_v122
theorem tok_v123 : TOk Kn Tryz.prog (lk L_v123) := lk_cons ok_v123 tok_v122

noncomputable abbrev S_v73 : Summ := sumE [] false Tryz.prog (lkC L_v123) 400 Tryz.f73 (Tryz.f73.body.getD .skip) []
theorem ok_v73 : SummOk Kn Tryz.prog 73 S_v73 := sumE_ok (tok_cl tok_v123) Tryz.checked.mixed Tryz.func73 (by kernel_rfl) (by rfl) 400 []   -- (*barbican/verify.state).copied
noncomputable def L_v73 : List (Nat × Summ) := (73, S_v73) :: L_v123
theorem tok_v73 : TOk Kn Tryz.prog (lk L_v73) := lk_cons ok_v73 tok_v123

noncomputable abbrev S_v89 : Summ := sumE [] false Tryz.prog (lkC L_v73) 400 Tryz.f89 (Tryz.f89.body.getD .skip) []
theorem ok_v89 : SummOk Kn Tryz.prog 89 S_v89 := sumE_ok (tok_cl tok_v73) Tryz.checked.mixed Tryz.func89 (by kernel_rfl) (by rfl) 400 []   -- (*barbican/verify.state).top
noncomputable def L_v89 : List (Nat × Summ) := (89, S_v89) :: L_v73
theorem tok_v89 : TOk Kn Tryz.prog (lk L_v89) := lk_cons ok_v89 tok_v73

noncomputable abbrev S_v74 : Summ := sumE [] false Tryz.prog (lkC L_v89) 400 Tryz.f74 (Tryz.f74.body.getD .skip) []
theorem ok_v74 : SummOk Kn Tryz.prog 74 S_v74 := sumE_ok (tok_cl tok_v89) Tryz.checked.mixed Tryz.func74 (by kernel_rfl) (by rfl) 400 []   -- (*barbican/verify.state).returns
noncomputable def L_v74 : List (Nat × Summ) := (74, S_v74) :: L_v89
theorem tok_v74 : TOk Kn Tryz.prog (lk L_v74) := lk_cons ok_v74 tok_v89

noncomputable abbrev S_v152 : Summ := sumE [] false Tryz.prog (lkC L_v74) 400 Tryz.f152 (Tryz.f152.body.getD .skip) []
theorem ok_v152 : SummOk Kn Tryz.prog 152 S_v152 := sumE_ok (tok_cl tok_v74) Tryz.checked.mixed Tryz.func152 (by kernel_rfl) (by rfl) 400 []   -- barbican/tnum.Unknown
noncomputable def L_v152 : List (Nat × Summ) := (152, S_v152) :: L_v74
theorem tok_v152 : TOk Kn Tryz.prog (lk L_v152) := lk_cons ok_v152 tok_v74

noncomputable abbrev S_v118 : Summ := sumE [] false Tryz.prog (lkC L_v152) 400 Tryz.f118 (Tryz.f118.body.getD .skip) []
theorem ok_v118 : SummOk Kn Tryz.prog 118 S_v118 := sumE_ok (tok_cl tok_v152) Tryz.checked.mixed Tryz.func118 (by kernel_rfl) (by rfl) 400 []   -- barbican/scalar.Unknown
noncomputable def L_v118 : List (Nat × Summ) := (118, S_v118) :: L_v152
theorem tok_v118 : TOk Kn Tryz.prog (lk L_v118) := lk_cons ok_v118 tok_v152

noncomputable abbrev S_v231 : Summ := sumE [] false Tryz.prog (lkC L_v118) 400 Tryz.f231 (Tryz.f231.body.getD .skip) []
theorem ok_v231 : SummOk Kn Tryz.prog 231 S_v231 := sumE_ok (tok_cl tok_v118) Tryz.checked.mixed Tryz.func231 (by kernel_rfl) (by rfl) 400 []   -- barbican/tnum.Is
noncomputable def L_v231 : List (Nat × Summ) := (231, S_v231) :: L_v118
theorem tok_v231 : TOk Kn Tryz.prog (lk L_v231) := lk_cons ok_v231 tok_v118

noncomputable abbrev S_v277 : Summ := sumE [] false Tryz.prog (lkC L_v231) 400 Tryz.f277 (Tryz.f277.body.getD .skip) []
theorem ok_v277 : SummOk Kn Tryz.prog 277 S_v277 := sumE_ok (tok_cl tok_v231) Tryz.checked.mixed Tryz.func277 (by kernel_rfl) (by rfl) 400 []   -- barbican/tnum.right
noncomputable def L_v277 : List (Nat × Summ) := (277, S_v277) :: L_v231
theorem tok_v277 : TOk Kn Tryz.prog (lk L_v277) := lk_cons ok_v277 tok_v231

noncomputable abbrev S_v227 : Summ := sumE [] false Tryz.prog (lkC L_v277) 400 Tryz.f227 (Tryz.f227.body.getD .skip) []
theorem ok_v227 : SummOk Kn Tryz.prog 227 S_v227 := sumE_ok (tok_cl tok_v277) Tryz.checked.mixed Tryz.func227 (by kernel_rfl) (by rfl) 400 []   -- barbican/tnum.Least
noncomputable def L_v227 : List (Nat × Summ) := (227, S_v227) :: L_v277
theorem tok_v227 : TOk Kn Tryz.prog (lk L_v227) := lk_cons ok_v227 tok_v277

noncomputable abbrev S_v228 : Summ := sumE [] false Tryz.prog (lkC L_v227) 400 Tryz.f228 (Tryz.f228.body.getD .skip) []
theorem ok_v228 : SummOk Kn Tryz.prog 228 S_v228 := sumE_ok (tok_cl tok_v227) Tryz.checked.mixed Tryz.func228 (by kernel_rfl) (by rfl) 400 []   -- barbican/tnum.Most
noncomputable def L_v228 : List (Nat × Summ) := (228, S_v228) :: L_v227
theorem tok_v228 : TOk Kn Tryz.prog (lk L_v228) := lk_cons ok_v228 tok_v227

noncomputable abbrev S_v190 : Summ := sumE [] false Tryz.prog (lkC L_v228) 400 Tryz.f190 (Tryz.f190.body.getD .skip) []
theorem ok_v190 : SummOk Kn Tryz.prog 190 S_v190 := sumE_ok (tok_cl tok_v228) Tryz.checked.mixed Tryz.func190 (by kernel_rfl) (by rfl) 400 []   -- (*barbican/scalar.known).byBits
noncomputable def L_v190 : List (Nat × Summ) := (190, S_v190) :: L_v228
theorem tok_v190 : TOk Kn Tryz.prog (lk L_v190) := lk_cons ok_v190 tok_v228

noncomputable abbrev S_v230 : Summ := sumE [] false Tryz.prog (lkC L_v190) 400 Tryz.f230 (Tryz.f230.body.getD .skip) []
theorem ok_v230 : SummOk Kn Tryz.prog 230 S_v230 := sumE_ok (tok_cl tok_v190) Tryz.checked.mixed Tryz.func230 (by kernel_rfl) (by rfl) 400 []   -- barbican/tnum.Range
noncomputable def L_v230 : List (Nat × Summ) := (230, S_v230) :: L_v190
theorem tok_v230 : TOk Kn Tryz.prog (lk L_v230) := lk_cons ok_v230 tok_v190

noncomputable abbrev S_v229 : Summ := sumE [] false Tryz.prog (lkC L_v230) 400 Tryz.f229 (Tryz.f229.body.getD .skip) []
theorem ok_v229 : SummOk Kn Tryz.prog 229 S_v229 := sumE_ok (tok_cl tok_v230) Tryz.checked.mixed Tryz.func229 (by kernel_rfl) (by rfl) 400 []   -- barbican/tnum.Meet
noncomputable def L_v229 : List (Nat × Summ) := (229, S_v229) :: L_v230
theorem tok_v229 : TOk Kn Tryz.prog (lk L_v229) := lk_cons ok_v229 tok_v230

noncomputable abbrev S_v191 : Summ := sumE [] false Tryz.prog (lkC L_v229) 400 Tryz.f191 (Tryz.f191.body.getD .skip) []
theorem ok_v191 : SummOk Kn Tryz.prog 191 S_v191 := sumE_ok (tok_cl tok_v229) Tryz.checked.mixed Tryz.func191 (by kernel_rfl) (by rfl) 400 []   -- (*barbican/scalar.known).byRange
noncomputable def L_v191 : List (Nat × Summ) := (191, S_v191) :: L_v229
theorem tok_v191 : TOk Kn Tryz.prog (lk L_v191) := lk_cons ok_v191 tok_v229

noncomputable abbrev S_v192 : Summ := sumE [] false Tryz.prog (lkC L_v191) 400 Tryz.f192 (Tryz.f192.body.getD .skip) []
theorem ok_v192 : SummOk Kn Tryz.prog 192 S_v192 := sumE_ok (tok_cl tok_v191) Tryz.checked.mixed Tryz.func192 (by kernel_rfl) (by rfl) 400 []   -- (*barbican/scalar.known).byPlain
noncomputable def L_v192 : List (Nat × Summ) := (192, S_v192) :: L_v191
theorem tok_v192 : TOk Kn Tryz.prog (lk L_v192) := lk_cons ok_v192 tok_v191

noncomputable abbrev S_v193 : Summ := sumE [] false Tryz.prog (lkC L_v192) 400 Tryz.f193 (Tryz.f193.body.getD .skip) []
theorem ok_v193 : SummOk Kn Tryz.prog 193 S_v193 := sumE_ok (tok_cl tok_v192) Tryz.checked.mixed Tryz.func193 (by kernel_rfl) (by rfl) 400 []   -- (*barbican/scalar.known).bySign
noncomputable def L_v193 : List (Nat × Summ) := (193, S_v193) :: L_v192
theorem tok_v193 : TOk Kn Tryz.prog (lk L_v193) := lk_cons ok_v193 tok_v192

noncomputable abbrev S_v194 : Summ := sumE [] false Tryz.prog (lkC L_v193) 400 Tryz.f194 (Tryz.f194.body.getD .skip) []
theorem ok_v194 : SummOk Kn Tryz.prog 194 S_v194 := sumE_ok (tok_cl tok_v193) Tryz.checked.mixed Tryz.func194 (by kernel_rfl) (by rfl) 400 []   -- (*barbican/scalar.known).none
noncomputable def L_v194 : List (Nat × Summ) := (194, S_v194) :: L_v193
theorem tok_v194 : TOk Kn Tryz.prog (lk L_v194) := lk_cons ok_v194 tok_v193

noncomputable abbrev S_v153 : Summ := sumE [] false Tryz.prog (lkC L_v194) 400 Tryz.f153 (Tryz.f153.body.getD .skip) []
theorem ok_v153 : SummOk Kn Tryz.prog 153 S_v153 := sumE_ok (tok_cl tok_v194) Tryz.checked.mixed Tryz.func153 (by kernel_rfl) (by rfl) 400 []   -- barbican/scalar.Sync
noncomputable def L_v153 : List (Nat × Summ) := (153, S_v153) :: L_v194
theorem tok_v153 : TOk Kn Tryz.prog (lk L_v153) := lk_cons ok_v153 tok_v194

noncomputable abbrev S_v119 : Summ := sumE [] false Tryz.prog (lkC L_v153) 400 Tryz.f119 (Tryz.f119.body.getD .skip) []
theorem ok_v119 : SummOk Kn Tryz.prog 119 S_v119 := sumE_ok (tok_cl tok_v153) Tryz.checked.mixed Tryz.func119 (by kernel_rfl) (by rfl) 400 []   -- barbican/scalar.synced
noncomputable def L_v119 : List (Nat × Summ) := (119, S_v119) :: L_v153
theorem tok_v119 : TOk Kn Tryz.prog (lk L_v119) := lk_cons ok_v119 tok_v153

noncomputable abbrev S_v67 : Summ := sumE [] false Tryz.prog (lkC L_v119) 400 Tryz.f67 (Tryz.f67.body.getD .skip) []
theorem ok_v67 : SummOk Kn Tryz.prog 67 S_v67 := sumE_ok (tok_cl tok_v119) Tryz.checked.mixed Tryz.func67 (by kernel_rfl) (by rfl) 400 []   -- barbican/scalar.Between
noncomputable def L_v67 : List (Nat × Summ) := (67, S_v67) :: L_v119
theorem tok_v67 : TOk Kn Tryz.prog (lk L_v67) := lk_cons ok_v67 tok_v119

noncomputable abbrev S_v66 : Summ := sumE [] false Tryz.prog (lkC L_v67) 400 Tryz.f66 (Tryz.f66.body.getD .skip) []
theorem ok_v66 : SummOk Kn Tryz.prog 66 S_v66 := sumE_ok (tok_cl tok_v67) Tryz.checked.mixed Tryz.func66 (by kernel_rfl) (by rfl) 400 []   -- (*barbican/verify.helped).random$1
noncomputable def L_v66 : List (Nat × Summ) := (66, S_v66) :: L_v67
theorem tok_v66 : TOk Kn Tryz.prog (lk L_v66) := lk_cons ok_v66 tok_v67

noncomputable abbrev S_v69 : Summ := sumE [] false Tryz.prog (lkC L_v66) 400 Tryz.f69 (Tryz.f69.body.getD .skip) []
theorem ok_v69 : SummOk Kn Tryz.prog 69 S_v69 := sumE_ok (tok_cl tok_v66) Tryz.checked.mixed Tryz.func69 (by kernel_rfl) (by rfl) 400 []   -- (*barbican/verify.helped).tail$1
noncomputable def L_v69 : List (Nat × Summ) := (69, S_v69) :: L_v66
theorem tok_v69 : TOk Kn Tryz.prog (lk L_v69) := lk_cons ok_v69 tok_v66

noncomputable abbrev S_v80 : Summ := sumE [] false Tryz.prog (lkC L_v69) 400 Tryz.f80 (Tryz.f80.body.getD .skip) []
theorem ok_v80 : SummOk Kn Tryz.prog 80 S_v80 := sumE_ok (tok_cl tok_v69) Tryz.checked.mixed Tryz.func80 (by kernel_rfl) (by rfl) 400 []   -- barbican/verify.unknown
noncomputable def L_v80 : List (Nat × Summ) := (80, S_v80) :: L_v69
theorem tok_v80 : TOk Kn Tryz.prog (lk L_v80) := lk_cons ok_v80 tok_v69

noncomputable abbrev S_v79 : Summ := sumE [] false Tryz.prog (lkC L_v80) 400 Tryz.f79 (Tryz.f79.body.getD .skip) []
theorem ok_v79 : SummOk Kn Tryz.prog 79 S_v79 := sumE_ok (tok_cl tok_v80) Tryz.checked.mixed Tryz.func79 (by kernel_rfl) (by rfl) 400 []   -- (*barbican/verify.helped).callback$1
noncomputable def L_v79 : List (Nat × Summ) := (79, S_v79) :: L_v80
theorem tok_v79 : TOk Kn Tryz.prog (lk L_v79) := lk_cons ok_v79 tok_v80

noncomputable abbrev S_v85 : Summ := sumE [] false Tryz.prog (lkC L_v79) 400 Tryz.f85 (Tryz.f85.body.getD .skip) []
theorem ok_v85 : SummOk Kn Tryz.prog 85 S_v85 := sumE_ok (tok_cl tok_v79) Tryz.checked.mixed Tryz.func85 (by kernel_rfl) (by rfl) 400 []   -- (*barbican/verify.helped).dynRead$1
noncomputable def L_v85 : List (Nat × Summ) := (85, S_v85) :: L_v79
theorem tok_v85 : TOk Kn Tryz.prog (lk L_v85) := lk_cons ok_v85 tok_v79

noncomputable abbrev S_v86 : Summ := sumE [] false Tryz.prog (lkC L_v85) 400 Tryz.f86 (Tryz.f86.body.getD .skip) []
theorem ok_v86 : SummOk Kn Tryz.prog 86 S_v86 := sumE_ok (tok_cl tok_v85) Tryz.checked.mixed Tryz.func86 (by kernel_rfl) (by rfl) 400 []   -- (*barbican/verify.helped).dynWrite$1
noncomputable def L_v86 : List (Nat × Summ) := (86, S_v86) :: L_v85
theorem tok_v86 : TOk Kn Tryz.prog (lk L_v86) := lk_cons ok_v86 tok_v85

noncomputable abbrev S_v87 : Summ := sumE [] false Tryz.prog (lkC L_v86) 400 Tryz.f87 (Tryz.f87.body.getD .skip) []
theorem ok_v87 : SummOk Kn Tryz.prog 87 S_v87 := sumE_ok (tok_cl tok_v86) Tryz.checked.mixed Tryz.func87 (by kernel_rfl) (by rfl) 400 []   -- (*barbican/verify.helped).dynData$1
noncomputable def L_v87 : List (Nat × Summ) := (87, S_v87) :: L_v86
theorem tok_v87 : TOk Kn Tryz.prog (lk L_v87) := lk_cons ok_v87 tok_v86

noncomputable abbrev S_v120 : Summ := sumE [] false Tryz.prog (lkC L_v87) 400 Tryz.f120 (Tryz.f120.body.getD .skip) []
theorem ok_v120 : SummOk Kn Tryz.prog 120 S_v120 := sumE_ok (tok_cl tok_v87) Tryz.checked.mixed Tryz.func120 (by kernel_rfl) (by rfl) 400 []   -- barbican/verify.refuses
noncomputable def L_v120 : List (Nat × Summ) := (120, S_v120) :: L_v87
theorem tok_v120 : TOk Kn Tryz.prog (lk L_v120) := lk_cons ok_v120 tok_v87

noncomputable abbrev S_v68 : Summ := sumE [] false Tryz.prog (lkC L_v120) 400 Tryz.f68 (Tryz.f68.body.getD .skip) []
theorem ok_v68 : SummOk Kn Tryz.prog 68 S_v68 := sumE_ok (tok_cl tok_v120) Tryz.checked.mixed Tryz.func68 (by kernel_rfl) (by rfl) 400 []   -- barbican/verify.must
noncomputable def L_v68 : List (Nat × Summ) := (68, S_v68) :: L_v120
theorem tok_v68 : TOk Kn Tryz.prog (lk L_v68) := lk_cons ok_v68 tok_v120

noncomputable abbrev S_v127 : Summ := sumE [] false Tryz.prog (lkC L_v68) 400 Tryz.f127 (Tryz.f127.body.getD .skip) []
theorem ok_v127 : SummOk Kn Tryz.prog 127 S_v127 := sumE_ok (tok_cl tok_v68) Tryz.checked.mixed Tryz.func127 (by kernel_rfl) (by rfl) 400 []   -- barbican/verify.fixed
noncomputable def L_v127 : List (Nat × Summ) := (127, S_v127) :: L_v68
theorem tok_v127 : TOk Kn Tryz.prog (lk L_v127) := lk_cons ok_v127 tok_v68

noncomputable abbrev S_v128 : Summ := sumE [] false Tryz.prog (lkC L_v127) 400 Tryz.f128 (Tryz.f128.body.getD .skip) []
theorem ok_v128 : SummOk Kn Tryz.prog 128 S_v128 := sumE_ok (tok_cl tok_v127) Tryz.checked.mixed Tryz.func128 (by kernel_rfl) (by rfl) 400 []   -- (*barbican/verify.state).stackOf
noncomputable def L_v128 : List (Nat × Summ) := (128, S_v128) :: L_v127
theorem tok_v128 : TOk Kn Tryz.prog (lk L_v128) := lk_cons ok_v128 tok_v127

noncomputable abbrev S_v133 : Summ := sumE [] false Tryz.prog (lkC L_v128) 400 Tryz.f133 (Tryz.f133.body.getD .skip) []
theorem ok_v133 : SummOk Kn Tryz.prog 133 S_v133 := sumE_ok (tok_cl tok_v128) Tryz.checked.mixed Tryz.func133 (by kernel_rfl) (by rfl) 400 []   -- (*barbican/verify.helped).marked
noncomputable def L_v133 : List (Nat × Summ) := (133, S_v133) :: L_v128
theorem tok_v133 : TOk Kn Tryz.prog (lk L_v133) := lk_cons ok_v133 tok_v128

noncomputable abbrev S_v90 : Summ := sumE [] false Tryz.prog (lkC L_v133) 400 Tryz.f90 (Tryz.f90.body.getD .skip) []
theorem ok_v90 : SummOk Kn Tryz.prog 90 S_v90 := sumE_ok (tok_cl tok_v133) Tryz.checked.mixed Tryz.func90 (by kernel_rfl) (by rfl) 400 []   -- (*barbican/verify.helped).retags
noncomputable def L_v90 : List (Nat × Summ) := (90, S_v90) :: L_v133
theorem tok_v90 : TOk Kn Tryz.prog (lk L_v90) := lk_cons ok_v90 tok_v133

noncomputable abbrev S_v88 : Summ := sumE [] false Tryz.prog (lkC L_v90) 400 Tryz.f88 (Tryz.f88.body.getD .skip) []
theorem ok_v88 : SummOk Kn Tryz.prog 88 S_v88 := sumE_ok (tok_cl tok_v90) Tryz.checked.mixed Tryz.func88 (by kernel_rfl) (by rfl) 400 []   -- (*barbican/verify.helped).iterNext$1
noncomputable def L_v88 : List (Nat × Summ) := (88, S_v88) :: L_v90
theorem tok_v88 : TOk Kn Tryz.prog (lk L_v88) := lk_cons ok_v88 tok_v90

noncomputable abbrev S_v94 : Summ := sumE [] false Tryz.prog (lkC L_v88) 400 Tryz.f94 (Tryz.f94.body.getD .skip) []
theorem ok_v94 : SummOk Kn Tryz.prog 94 S_v94 := sumE_ok (tok_cl tok_v88) Tryz.checked.mixed Tryz.func94 (by kernel_rfl) (by rfl) 400 []   -- (*barbican/verify.state).number
noncomputable def L_v94 : List (Nat × Summ) := (94, S_v94) :: L_v88
theorem tok_v94 : TOk Kn Tryz.prog (lk L_v94) := lk_cons ok_v94 tok_v88

noncomputable abbrev S_v258 : Summ := sumE [] false Tryz.prog (lkC L_v94) 400 Tryz.f258 (Tryz.f258.body.getD .skip) []
theorem ok_v258 : SummOk Kn Tryz.prog 258 S_v258 := sumE_ok (tok_cl tok_v94) Tryz.checked.mixed Tryz.func258 (by kernel_rfl) (by rfl) 400 []   -- (*barbican/verify.state).acquires
noncomputable def L_v258 : List (Nat × Summ) := (258, S_v258) :: L_v94
theorem tok_v258 : TOk Kn Tryz.prog (lk L_v258) := lk_cons ok_v258 tok_v94

noncomputable abbrev S_v257 : Summ := sumE [] false Tryz.prog (lkC L_v258) 400 Tryz.f257 (Tryz.f257.body.getD .skip) []
theorem ok_v257 : SummOk Kn Tryz.prog 257 S_v257 := sumE_ok (tok_cl tok_v258) Tryz.checked.mixed Tryz.func257 (by kernel_rfl) (by rfl) 400 []   -- (*barbican/verify.helped).ledger$1
noncomputable def L_v257 : List (Nat × Summ) := (257, S_v257) :: L_v258
theorem tok_v257 : TOk Kn Tryz.prog (lk L_v257) := lk_cons ok_v257 tok_v258

noncomputable abbrev S_v259 : Summ := sumE [] false Tryz.prog (lkC L_v257) 400 Tryz.f259 (Tryz.f259.body.getD .skip) []
theorem ok_v259 : SummOk Kn Tryz.prog 259 S_v259 := sumE_ok (tok_cl tok_v257) Tryz.checked.mixed Tryz.func259 (by kernel_rfl) (by rfl) 400 []   -- (*barbican/verify.helped).ledger$2
noncomputable def L_v259 : List (Nat × Summ) := (259, S_v259) :: L_v257
theorem tok_v259 : TOk Kn Tryz.prog (lk L_v259) := lk_cons ok_v259 tok_v257

noncomputable abbrev S_v260 : Summ := sumE [] false Tryz.prog (lkC L_v259) 400 Tryz.f260 (Tryz.f260.body.getD .skip) []
theorem ok_v260 : SummOk Kn Tryz.prog 260 S_v260 := sumE_ok (tok_cl tok_v259) Tryz.checked.mixed Tryz.func260 (by kernel_rfl) (by rfl) 400 []   -- (*barbican/verify.helped).ledger$3
noncomputable def L_v260 : List (Nat × Summ) := (260, S_v260) :: L_v259
theorem tok_v260 : TOk Kn Tryz.prog (lk L_v260) := lk_cons ok_v260 tok_v259

noncomputable abbrev S_v311 : Summ := sumE [] false Tryz.prog (lkC L_v260) 400 Tryz.f311 (Tryz.f311.body.getD .skip) []
theorem ok_v311 : SummOk Kn Tryz.prog 311 S_v311 := sumE_ok (tok_cl tok_v260) Tryz.checked.mixed Tryz.func311 (by kernel_rfl) (by rfl) 400 []   -- (*barbican/verify.helped).iterNew$1
noncomputable def L_v311 : List (Nat × Summ) := (311, S_v311) :: L_v260
theorem tok_v311 : TOk Kn Tryz.prog (lk L_v311) := lk_cons ok_v311 tok_v260

noncomputable abbrev S_v62 : Summ := sumE [] false Tryz.prog (lkC L_v311) 400 Tryz.f62 (Tryz.f62.body.getD .skip) []
theorem ok_v62 : SummOk Kn Tryz.prog 62 S_v62 := sumE_ok (tok_cl tok_v311) Tryz.checked.mixed Tryz.func62 (by kernel_rfl) (by rfl) 400 []   -- (*barbican/verify.helped).either
noncomputable def L_v62 : List (Nat × Summ) := (62, S_v62) :: L_v311
theorem tok_v62 : TOk Kn Tryz.prog (lk L_v62) := lk_cons ok_v62 tok_v311

noncomputable abbrev S_v20 : Summ := sumE [] false Tryz.prog (lkC L_v62) 400 Tryz.f20 (Tryz.f20.body.getD .skip) []
theorem ok_v20 : SummOk Kn Tryz.prog 20 S_v20 := sumE_ok (tok_cl tok_v62) Tryz.checked.mixed Tryz.func20 (by kernel_rfl) (by rfl) 400 []   -- (*barbican/verify.helped).lookup
noncomputable def L_v20 : List (Nat × Summ) := (20, S_v20) :: L_v62
theorem tok_v20 : TOk Kn Tryz.prog (lk L_v20) := lk_cons ok_v20 tok_v62

noncomputable abbrev S_v21 : Summ := sumE [] false Tryz.prog (lkC L_v20) 400 Tryz.f21 (Tryz.f21.body.getD .skip) []
theorem ok_v21 : SummOk Kn Tryz.prog 21 S_v21 := sumE_ok (tok_cl tok_v20) Tryz.checked.mixed Tryz.func21 (by kernel_rfl) (by rfl) 400 []   -- (*barbican/verify.helped).random
noncomputable def L_v21 : List (Nat × Summ) := (21, S_v21) :: L_v20
theorem tok_v21 : TOk Kn Tryz.prog (lk L_v21) := lk_cons ok_v21 tok_v20

noncomputable abbrev S_v22 : Summ := sumE [] false Tryz.prog (lkC L_v21) 400 Tryz.f22 (Tryz.f22.body.getD .skip) []
theorem ok_v22 : SummOk Kn Tryz.prog 22 S_v22 := sumE_ok (tok_cl tok_v21) Tryz.checked.mixed Tryz.func22 (by kernel_rfl) (by rfl) 400 []   -- (*barbican/verify.helped).tail
noncomputable def L_v22 : List (Nat × Summ) := (22, S_v22) :: L_v21
theorem tok_v22 : TOk Kn Tryz.prog (lk L_v22) := lk_cons ok_v22 tok_v21

noncomputable abbrev S_v71 : Summ := sumE [] false Tryz.prog (lkC L_v22) 400 Tryz.f71 (Tryz.f71.body.getD .skip) []
theorem ok_v71 : SummOk Kn Tryz.prog 71 S_v71 := sumE_ok (tok_cl tok_v22) Tryz.checked.mixed Tryz.func71 (by kernel_rfl) (by rfl) 400 []   -- (*barbican/verify.helped).num
noncomputable def L_v71 : List (Nat × Summ) := (71, S_v71) :: L_v22
theorem tok_v71 : TOk Kn Tryz.prog (lk L_v71) := lk_cons ok_v71 tok_v22

noncomputable abbrev S_v72 : Summ := sumE [] false Tryz.prog (lkC L_v71) 400 Tryz.f72 (Tryz.f72.body.getD .skip) []
theorem ok_v72 : SummOk Kn Tryz.prog 72 S_v72 := sumE_ok (tok_cl tok_v71) Tryz.checked.mixed Tryz.func72 (by kernel_rfl) (by rfl) 400 []   -- (*barbican/verify.helped).loop$1
noncomputable def L_v72 : List (Nat × Summ) := (72, S_v72) :: L_v71
theorem tok_v72 : TOk Kn Tryz.prog (lk L_v72) := lk_cons ok_v72 tok_v71

noncomputable abbrev S_v156 : Summ := sumE [] false Tryz.prog (lkC L_v72) 400 Tryz.f156 (Tryz.f156.body.getD .skip) []
theorem ok_v156 : SummOk Kn Tryz.prog 156 S_v156 := sumE_ok (tok_cl tok_v72) Tryz.checked.mixed Tryz.func156 (by kernel_rfl) (by rfl) 400 []   -- maps.Keys[map[int]int,int,int]$1
noncomputable def L_v156 : List (Nat × Summ) := (156, S_v156) :: L_v72
theorem tok_v156 : TOk Kn Tryz.prog (lk L_v156) := lk_cons ok_v156 tok_v72

noncomputable abbrev S_v125 : Summ := sumE [] false Tryz.prog (lkC L_v156) 400 Tryz.f125 (Tryz.f125.body.getD .skip) []
theorem ok_v125 : SummOk Kn Tryz.prog 125 S_v125 := sumE_ok (tok_cl tok_v156) Tryz.checked.mixed Tryz.func125 (by kernel_rfl) (by rfl) 400 []   -- maps.Keys[map[int]int,int,int]
noncomputable def L_v125 : List (Nat × Summ) := (125, S_v125) :: L_v156
theorem tok_v125 : TOk Kn Tryz.prog (lk L_v125) := lk_cons ok_v125 tok_v156

noncomputable abbrev S_v195 : Summ := sumE [] false Tryz.prog (lkC L_v125) 400 Tryz.f195 (Tryz.f195.body.getD .skip) []
theorem ok_v195 : SummOk Kn Tryz.prog 195 S_v195 := sumE_ok (tok_cl tok_v125) Tryz.checked.mixed Tryz.func195 (by kernel_rfl) (by rfl) 400 []   -- slices.AppendSeq[[]int,int]
noncomputable def L_v195 : List (Nat × Summ) := (195, S_v195) :: L_v125
theorem tok_v195 : TOk Kn Tryz.prog (lk L_v195) := lk_cons ok_v195 tok_v125

noncomputable abbrev S_v155 : Summ := sumE [] false Tryz.prog (lkC L_v195) 400 Tryz.f155 (Tryz.f155.body.getD .skip) []
theorem ok_v155 : SummOk Kn Tryz.prog 155 S_v155 := sumE_ok (tok_cl tok_v195) Tryz.checked.mixed Tryz.func155 (by kernel_rfl) (by rfl) 400 []   -- slices.Collect[int]
noncomputable def L_v155 : List (Nat × Summ) := (155, S_v155) :: L_v195
theorem tok_v155 : TOk Kn Tryz.prog (lk L_v155) := lk_cons ok_v155 tok_v195

noncomputable abbrev S_v124 : Summ := sumE [] false Tryz.prog (lkC L_v155) 400 Tryz.f124 (Tryz.f124.body.getD .skip) []
theorem ok_v124 : SummOk Kn Tryz.prog 124 S_v124 := sumE_ok (tok_cl tok_v155) Tryz.checked.mixed Tryz.func124 (by kernel_rfl) (by rfl) 400 []   -- slices.Sorted[int]
noncomputable def L_v124 : List (Nat × Summ) := (124, S_v124) :: L_v155
theorem tok_v124 : TOk Kn Tryz.prog (lk L_v124) := lk_cons ok_v124 tok_v155

noncomputable abbrev S_v75 : Summ := sumE [] false Tryz.prog (lkC L_v124) 400 Tryz.f75 (Tryz.f75.body.getD .skip) []
theorem ok_v75 : SummOk Kn Tryz.prog 75 S_v75 := sumE_ok (tok_cl tok_v124) Tryz.checked.mixed Tryz.func75 (by kernel_rfl) (by rfl) 400 []   -- (*barbican/verify.state).held
noncomputable def L_v75 : List (Nat × Summ) := (75, S_v75) :: L_v124
theorem tok_v75 : TOk Kn Tryz.prog (lk L_v75) := lk_cons ok_v75 tok_v124

noncomputable abbrev S_v33 : Summ := sumE [] false Tryz.prog (lkC L_v75) 400 Tryz.f33 (Tryz.f33.body.getD .skip) []
theorem ok_v33 : SummOk Kn Tryz.prog 33 S_v33 := sumE_ok (tok_cl tok_v75) Tryz.checked.mixed Tryz.func33 (by kernel_rfl) (by rfl) 400 []   -- (*barbican/verify.state).pushes
noncomputable def L_v33 : List (Nat × Summ) := (33, S_v33) :: L_v75
theorem tok_v33 : TOk Kn Tryz.prog (lk L_v33) := lk_cons ok_v33 tok_v75

noncomputable abbrev S_v126 : Summ := sumE [] false Tryz.prog (lkC L_v33) 400 Tryz.f126 (Tryz.f126.body.getD .skip) []
theorem ok_v126 : SummOk Kn Tryz.prog 126 S_v126 := sumE_ok (tok_cl tok_v33) Tryz.checked.mixed Tryz.func126 (by kernel_rfl) (by rfl) 400 []   -- (*barbican/verify.state).calls
noncomputable def L_v126 : List (Nat × Summ) := (126, S_v126) :: L_v33
theorem tok_v126 : TOk Kn Tryz.prog (lk L_v126) := lk_cons ok_v126 tok_v33

noncomputable abbrev S_v76 : Summ := sumE [] false Tryz.prog (lkC L_v126) 400 Tryz.f76 (Tryz.f76.body.getD .skip) []
theorem ok_v76 : SummOk Kn Tryz.prog 76 S_v76 := sumE_ok (tok_cl tok_v126) Tryz.checked.mixed Tryz.func76 (by kernel_rfl) (by rfl) 400 []   -- (*barbican/verify.state).turn
noncomputable def L_v76 : List (Nat × Summ) := (76, S_v76) :: L_v126
theorem tok_v76 : TOk Kn Tryz.prog (lk L_v76) := lk_cons ok_v76 tok_v126

noncomputable abbrev S_v23 : Summ := sumE [] false Tryz.prog (lkC L_v76) 400 Tryz.f23 (Tryz.f23.body.getD .skip) []
theorem ok_v23 : SummOk Kn Tryz.prog 23 S_v23 := sumE_ok (tok_cl tok_v76) Tryz.checked.mixed Tryz.func23 (by kernel_rfl) (by rfl) 400 []   -- (*barbican/verify.helped).loop
noncomputable def L_v23 : List (Nat × Summ) := (23, S_v23) :: L_v76
theorem tok_v23 : TOk Kn Tryz.prog (lk L_v23) := lk_cons ok_v23 tok_v76

noncomputable abbrev S_v78 : Summ := sumE [] false Tryz.prog (lkC L_v23) 400 Tryz.f78 (Tryz.f78.body.getD .skip) []
theorem ok_v78 : SummOk Kn Tryz.prog 78 S_v78 := sumE_ok (tok_cl tok_v23) Tryz.checked.mixed Tryz.func78 (by kernel_rfl) (by rfl) 400 []   -- (*barbican/verify.helped).timed
noncomputable def L_v78 : List (Nat × Summ) := (78, S_v78) :: L_v23
theorem tok_v78 : TOk Kn Tryz.prog (lk L_v78) := lk_cons ok_v78 tok_v23

noncomputable abbrev S_v77 : Summ := sumE [] false Tryz.prog (lkC L_v78) 400 Tryz.f77 (Tryz.f77.body.getD .skip) []
theorem ok_v77 : SummOk Kn Tryz.prog 77 S_v77 := sumE_ok (tok_cl tok_v78) Tryz.checked.mixed Tryz.func77 (by kernel_rfl) (by rfl) 400 []   -- (*barbican/verify.check).fires
noncomputable def L_v77 : List (Nat × Summ) := (77, S_v77) :: L_v78
theorem tok_v77 : TOk Kn Tryz.prog (lk L_v77) := lk_cons ok_v77 tok_v78

noncomputable abbrev S_v24 : Summ := sumE [] false Tryz.prog (lkC L_v77) 400 Tryz.f24 (Tryz.f24.body.getD .skip) []
theorem ok_v24 : SummOk Kn Tryz.prog 24 S_v24 := sumE_ok (tok_cl tok_v77) Tryz.checked.mixed Tryz.func24 (by kernel_rfl) (by rfl) 400 []   -- (*barbican/verify.helped).callback
noncomputable def L_v24 : List (Nat × Summ) := (24, S_v24) :: L_v77
theorem tok_v24 : TOk Kn Tryz.prog (lk L_v24) := lk_cons ok_v24 tok_v77

noncomputable abbrev S_v130 : Summ := sumE [] false Tryz.prog (lkC L_v24) 400 Tryz.f130 (Tryz.f130.body.getD .skip) []
theorem ok_v130 : SummOk Kn Tryz.prog 130 S_v130 := sumE_ok (tok_cl tok_v24) Tryz.checked.mixed Tryz.func130 (by kernel_rfl) (by rfl) 400 []   -- (*barbican/verify.frame).touched
noncomputable def L_v130 : List (Nat × Summ) := (130, S_v130) :: L_v24
theorem tok_v130 : TOk Kn Tryz.prog (lk L_v130) := lk_cons ok_v130 tok_v24

noncomputable abbrev S_v129 : Summ := sumE [] false Tryz.prog (lkC L_v130) 400 Tryz.f129 (Tryz.f129.body.getD .skip) []
theorem ok_v129 : SummOk Kn Tryz.prog 129 S_v129 := sumE_ok (tok_cl tok_v130) Tryz.checked.mixed Tryz.func129 (by kernel_rfl) (by rfl) 400 []   -- barbican/verify.untagged
noncomputable def L_v129 : List (Nat × Summ) := (129, S_v129) :: L_v130
theorem tok_v129 : TOk Kn Tryz.prog (lk L_v129) := lk_cons ok_v129 tok_v130

noncomputable abbrev S_v339 : Summ := sumE [] false Tryz.prog (lkC L_v129) 400 Tryz.f339 (Tryz.f339.body.getD .skip) []
theorem ok_v339 : SummOk Kn Tryz.prog 339 S_v339 := sumE_ok (tok_cl tok_v129) Tryz.checked.mixed Tryz.func339 (by kernel_rfl) (by rfl) 400 []   -- (barbican/verify.ctxPtr).pointer
noncomputable def L_v339 : List (Nat × Summ) := (339, S_v339) :: L_v129
theorem tok_v339 : TOk Kn Tryz.prog (lk L_v339) := lk_cons ok_v339 tok_v129

noncomputable abbrev S_v340 : Summ := sumE [] false Tryz.prog (lkC L_v339) 400 Tryz.f340 (Tryz.f340.body.getD .skip) []
theorem ok_v340 : SummOk Kn Tryz.prog 340 S_v340 := sumE_ok (tok_cl tok_v339) Tryz.checked.mixed Tryz.func340 (by kernel_rfl) (by rfl) 400 []   -- (barbican/verify.mapPtr).pointer
noncomputable def L_v340 : List (Nat × Summ) := (340, S_v340) :: L_v339
theorem tok_v340 : TOk Kn Tryz.prog (lk L_v340) := lk_cons ok_v340 tok_v339

noncomputable abbrev S_v341 : Summ := sumE [] false Tryz.prog (lkC L_v340) 400 Tryz.f341 (Tryz.f341.body.getD .skip) []
theorem ok_v341 : SummOk Kn Tryz.prog 341 S_v341 := sumE_ok (tok_cl tok_v340) Tryz.checked.mixed Tryz.func341 (by kernel_rfl) (by rfl) 400 []   -- (barbican/verify.number).pointer
noncomputable def L_v341 : List (Nat × Summ) := (341, S_v341) :: L_v340
theorem tok_v341 : TOk Kn Tryz.prog (lk L_v341) := lk_cons ok_v341 tok_v340

noncomputable abbrev S_v342 : Summ := sumE [] false Tryz.prog (lkC L_v341) 400 Tryz.f342 (Tryz.f342.body.getD .skip) []
theorem ok_v342 : SummOk Kn Tryz.prog 342 S_v342 := sumE_ok (tok_cl tok_v341) Tryz.checked.mixed Tryz.func342 (by kernel_rfl) (by rfl) 400 []   -- (barbican/verify.funcPtr).pointer
noncomputable def L_v342 : List (Nat × Summ) := (342, S_v342) :: L_v341
theorem tok_v342 : TOk Kn Tryz.prog (lk L_v342) := lk_cons ok_v342 tok_v341

noncomputable abbrev S_v343 : Summ := sumE [] false Tryz.prog (lkC L_v342) 400 Tryz.f343 (Tryz.f343.body.getD .skip) []
theorem ok_v343 : SummOk Kn Tryz.prog 343 S_v343 := sumE_ok (tok_cl tok_v342) Tryz.checked.mixed Tryz.func343 (by kernel_rfl) (by rfl) 400 []   -- (barbican/verify.areaPtr).pointer
noncomputable def L_v343 : List (Nat × Summ) := (343, S_v343) :: L_v342
theorem tok_v343 : TOk Kn Tryz.prog (lk L_v343) := lk_cons ok_v343 tok_v342

noncomputable abbrev S_v344 : Summ := sumE [] false Tryz.prog (lkC L_v343) 400 Tryz.f344 (Tryz.f344.body.getD .skip) []
theorem ok_v344 : SummOk Kn Tryz.prog 344 S_v344 := sumE_ok (tok_cl tok_v343) Tryz.checked.mixed Tryz.func344 (by kernel_rfl) (by rfl) 400 []   -- (barbican/verify.stackPtr).pointer
noncomputable def L_v344 : List (Nat × Summ) := (344, S_v344) :: L_v343
theorem tok_v344 : TOk Kn Tryz.prog (lk L_v344) := lk_cons ok_v344 tok_v343

noncomputable abbrev S_v345 : Summ := sumE [] false Tryz.prog (lkC L_v344) 400 Tryz.f345 (Tryz.f345.body.getD .skip) []
theorem ok_v345 : SummOk Kn Tryz.prog 345 S_v345 := sumE_ok (tok_cl tok_v344) Tryz.checked.mixed Tryz.func345 (by kernel_rfl) (by rfl) 400 []   -- (barbican/verify.sockPtr).pointer
noncomputable def L_v345 : List (Nat × Summ) := (345, S_v345) :: L_v344
theorem tok_v345 : TOk Kn Tryz.prog (lk L_v345) := lk_cons ok_v345 tok_v344

noncomputable abbrev S_v157 : Summ := sumE [] false Tryz.prog (lkC L_v345) 400 Tryz.f157 (Tryz.f157.body.getD .skip) []
theorem ok_v157 : SummOk Kn Tryz.prog 157 S_v157 := sumE_ok (tok_cl tok_v345) Tryz.checked.mixed Tryz.func157 (by kernel_rfl) (by rfl) 400 []   -- (barbican/verify.slot).holds
noncomputable def L_v157 : List (Nat × Summ) := (157, S_v157) :: L_v345
theorem tok_v157 : TOk Kn Tryz.prog (lk L_v157) := lk_cons ok_v157 tok_v345

noncomputable abbrev S_v131 : Summ := sumE [] false Tryz.prog (lkC L_v157) 400 Tryz.f131 (Tryz.f131.body.getD .skip) []
theorem ok_v131 : SummOk Kn Tryz.prog 131 S_v131 := sumE_ok (tok_cl tok_v157) Tryz.checked.mixed Tryz.func131 (by kernel_rfl) (by rfl) 400 []   -- (*barbican/verify.frame).spoils
noncomputable def L_v131 : List (Nat × Summ) := (131, S_v131) :: L_v157
theorem tok_v131 : TOk Kn Tryz.prog (lk L_v131) := lk_cons ok_v131 tok_v157

noncomputable abbrev S_v134 : Summ := sumE [] false Tryz.prog (lkC L_v131) 400 Tryz.f134 (Tryz.f134.body.getD .skip) []
theorem ok_v134 : SummOk Kn Tryz.prog 134 S_v134 := sumE_ok (tok_cl tok_v131) Tryz.checked.mixed Tryz.func134 (by kernel_rfl) (by rfl) 400 []   -- (*barbican/verify.state).live
noncomputable def L_v134 : List (Nat × Summ) := (134, S_v134) :: L_v131
theorem tok_v134 : TOk Kn Tryz.prog (lk L_v134) := lk_cons ok_v134 tok_v131

noncomputable abbrev S_v132 : Summ := sumE [] false Tryz.prog (lkC L_v134) 400 Tryz.f132 (Tryz.f132.body.getD .skip) []
theorem ok_v132 : SummOk Kn Tryz.prog 132 S_v132 := sumE_ok (tok_cl tok_v134) Tryz.checked.mixed Tryz.func132 (by kernel_rfl) (by rfl) 400 []   -- (*barbican/verify.state).inArea
noncomputable def L_v132 : List (Nat × Summ) := (132, S_v132) :: L_v134
theorem tok_v132 : TOk Kn Tryz.prog (lk L_v132) := lk_cons ok_v132 tok_v134

noncomputable abbrev S_v81 : Summ := sumE [] false Tryz.prog (lkC L_v132) 400 Tryz.f81 (Tryz.f81.body.getD .skip) []
theorem ok_v81 : SummOk Kn Tryz.prog 81 S_v81 := sumE_ok (tok_cl tok_v132) Tryz.checked.mixed Tryz.func81 (by kernel_rfl) (by rfl) 400 []   -- (*barbican/verify.state).writes
noncomputable def L_v81 : List (Nat × Summ) := (81, S_v81) :: L_v132
theorem tok_v81 : TOk Kn Tryz.prog (lk L_v81) := lk_cons ok_v81 tok_v132

noncomputable abbrev S_v82 : Summ := sumE [] false Tryz.prog (lkC L_v81) 400 Tryz.f82 (Tryz.f82.body.getD .skip) []
theorem ok_v82 : SummOk Kn Tryz.prog 82 S_v82 := sumE_ok (tok_cl tok_v81) Tryz.checked.mixed Tryz.func82 (by kernel_rfl) (by rfl) 400 []   -- (*barbican/verify.helped).marks
noncomputable def L_v82 : List (Nat × Summ) := (82, S_v82) :: L_v81
theorem tok_v82 : TOk Kn Tryz.prog (lk L_v82) := lk_cons ok_v82 tok_v81

noncomputable abbrev S_v25 : Summ := sumE [] false Tryz.prog (lkC L_v82) 400 Tryz.f25 (Tryz.f25.body.getD .skip) []
theorem ok_v25 : SummOk Kn Tryz.prog 25 S_v25 := sumE_ok (tok_cl tok_v82) Tryz.checked.mixed Tryz.func25 (by kernel_rfl) (by rfl) 400 []   -- (*barbican/verify.helped).dynMem
noncomputable def L_v25 : List (Nat × Summ) := (25, S_v25) :: L_v82
theorem tok_v25 : TOk Kn Tryz.prog (lk L_v25) := lk_cons ok_v25 tok_v82

noncomputable abbrev S_v84 : Summ := sumE [] false Tryz.prog (lkC L_v25) 400 Tryz.f84 (Tryz.f84.body.getD .skip) []
theorem ok_v84 : SummOk Kn Tryz.prog 84 S_v84 := sumE_ok (tok_cl tok_v25) Tryz.checked.mixed Tryz.func84 (by kernel_rfl) (by rfl) 400 []   -- (*barbican/verify.helped).tag
noncomputable def L_v84 : List (Nat × Summ) := (84, S_v84) :: L_v25
theorem tok_v84 : TOk Kn Tryz.prog (lk L_v84) := lk_cons ok_v84 tok_v25

noncomputable abbrev S_v83 : Summ := sumE [] false Tryz.prog (lkC L_v84) 400 Tryz.f83 (Tryz.f83.body.getD .skip) []
theorem ok_v83 : SummOk Kn Tryz.prog 83 S_v83 := sumE_ok (tok_cl tok_v84) Tryz.checked.mixed Tryz.func83 (by kernel_rfl) (by rfl) 400 []   -- (*barbican/verify.helped).usable
noncomputable def L_v83 : List (Nat × Summ) := (83, S_v83) :: L_v84
theorem tok_v83 : TOk Kn Tryz.prog (lk L_v83) := lk_cons ok_v83 tok_v84

noncomputable abbrev S_v26 : Summ := sumE [] false Tryz.prog (lkC L_v83) 400 Tryz.f26 (Tryz.f26.body.getD .skip) []
theorem ok_v26 : SummOk Kn Tryz.prog 26 S_v26 := sumE_ok (tok_cl tok_v83) Tryz.checked.mixed Tryz.func26 (by kernel_rfl) (by rfl) 400 []   -- (*barbican/verify.helped).dynRead
noncomputable def L_v26 : List (Nat × Summ) := (26, S_v26) :: L_v83
theorem tok_v26 : TOk Kn Tryz.prog (lk L_v26) := lk_cons ok_v26 tok_v83

noncomputable abbrev S_v27 : Summ := sumE [] false Tryz.prog (lkC L_v26) 400 Tryz.f27 (Tryz.f27.body.getD .skip) []
theorem ok_v27 : SummOk Kn Tryz.prog 27 S_v27 := sumE_ok (tok_cl tok_v26) Tryz.checked.mixed Tryz.func27 (by kernel_rfl) (by rfl) 400 []   -- (*barbican/verify.helped).dynWrite
noncomputable def L_v27 : List (Nat × Summ) := (27, S_v27) :: L_v26
theorem tok_v27 : TOk Kn Tryz.prog (lk L_v27) := lk_cons ok_v27 tok_v26

noncomputable abbrev S_v28 : Summ := sumE [] false Tryz.prog (lkC L_v27) 400 Tryz.f28 (Tryz.f28.body.getD .skip) []
theorem ok_v28 : SummOk Kn Tryz.prog 28 S_v28 := sumE_ok (tok_cl tok_v27) Tryz.checked.mixed Tryz.func28 (by kernel_rfl) (by rfl) 400 []   -- (*barbican/verify.helped).dynData
noncomputable def L_v28 : List (Nat × Summ) := (28, S_v28) :: L_v27
theorem tok_v28 : TOk Kn Tryz.prog (lk L_v28) := lk_cons ok_v28 tok_v27

noncomputable abbrev S_v29 : Summ := sumE [] false Tryz.prog (lkC L_v28) 400 Tryz.f29 (Tryz.f29.body.getD .skip) []
theorem ok_v29 : SummOk Kn Tryz.prog 29 S_v29 := sumE_ok (tok_cl tok_v28) Tryz.checked.mixed Tryz.func29 (by kernel_rfl) (by rfl) 400 []   -- (*barbican/verify.helped).iterNext
noncomputable def L_v29 : List (Nat × Summ) := (29, S_v29) :: L_v28
theorem tok_v29 : TOk Kn Tryz.prog (lk L_v29) := lk_cons ok_v29 tok_v28

noncomputable abbrev S_v13 : Summ := sumE [] false Tryz.prog (lkC L_v29) 400 Tryz.f13 (Tryz.f13.body.getD .skip) []
theorem ok_v13 : SummOk Kn Tryz.prog 13 S_v13 := sumE_ok (tok_cl tok_v29) Tryz.checked.mixed Tryz.func13 (by kernel_rfl) (by rfl) 400 []   -- barbican/verify.specials
noncomputable def L_v13 : List (Nat × Summ) := (13, S_v13) :: L_v29
theorem tok_v13 : TOk Kn Tryz.prog (lk L_v13) := lk_cons ok_v13 tok_v29

noncomputable abbrev S_v196 : Summ := sumE [] false Tryz.prog (lkC L_v13) 400 Tryz.f196 (Tryz.f196.body.getD .skip) []
theorem ok_v196 : SummOk Kn Tryz.prog 196 S_v196 := sumE_ok (tok_cl tok_v13) Tryz.checked.mixed Tryz.func196 (by kernel_rfl) (by rfl) 400 []   -- barbican/flow.jumps
noncomputable def L_v196 : List (Nat × Summ) := (196, S_v196) :: L_v13
theorem tok_v196 : TOk Kn Tryz.prog (lk L_v196) := lk_cons ok_v196 tok_v13

noncomputable abbrev S_v158 : Summ := sumE [] false Tryz.prog (lkC L_v196) 400 Tryz.f158 (Tryz.f158.body.getD .skip) []
theorem ok_v158 : SummOk Kn Tryz.prog 158 S_v158 := sumE_ok (tok_cl tok_v196) Tryz.checked.mixed Tryz.func158 (by kernel_rfl) (by rfl) 400 []   -- barbican/flow.next
noncomputable def L_v158 : List (Nat × Summ) := (158, S_v158) :: L_v196
theorem tok_v158 : TOk Kn Tryz.prog (lk L_v158) := lk_cons ok_v158 tok_v196

noncomputable abbrev S_v197 : Summ := sumE [] false Tryz.prog (lkC L_v158) 400 Tryz.f197 (Tryz.f197.body.getD .skip) []
theorem ok_v197 : SummOk Kn Tryz.prog 197 S_v197 := sumE_ok (tok_cl tok_v158) Tryz.checked.mixed Tryz.func197 (by kernel_rfl) (by rfl) 400 []   -- barbican/insn.Target
noncomputable def L_v197 : List (Nat × Summ) := (197, S_v197) :: L_v158
theorem tok_v197 : TOk Kn Tryz.prog (lk L_v197) := lk_cons ok_v197 tok_v158

noncomputable abbrev S_v159 : Summ := sumE [] false Tryz.prog (lkC L_v197) 400 Tryz.f159 (Tryz.f159.body.getD .skip) []
theorem ok_v159 : SummOk Kn Tryz.prog 159 S_v159 := sumE_ok (tok_cl tok_v197) Tryz.checked.mixed Tryz.func159 (by kernel_rfl) (by rfl) 400 []   -- barbican/flow.names
noncomputable def L_v159 : List (Nat × Summ) := (159, S_v159) :: L_v197
theorem tok_v159 : TOk Kn Tryz.prog (lk L_v159) := lk_cons ok_v159 tok_v197

noncomputable abbrev S_v135 : Summ := sumE [] false Tryz.prog (lkC L_v159) 400 Tryz.f135 (Tryz.f135.body.getD .skip) []
theorem ok_v135 : SummOk Kn Tryz.prog 135 S_v135 := sumE_ok (tok_cl tok_v159) Tryz.checked.mixed Tryz.func135 (by kernel_rfl) (by rfl) 400 []   -- barbican/flow.reached
noncomputable def L_v135 : List (Nat × Summ) := (135, S_v135) :: L_v159
theorem tok_v135 : TOk Kn Tryz.prog (lk L_v135) := lk_cons ok_v135 tok_v159

noncomputable abbrev S_v91 : Summ := sumE [] false Tryz.prog (lkC L_v135) 400 Tryz.f91 (Tryz.f91.body.getD .skip) []
theorem ok_v91 : SummOk Kn Tryz.prog 91 S_v91 := sumE_ok (tok_cl tok_v135) Tryz.checked.mixed Tryz.func91 (by kernel_rfl) (by rfl) 400 []   -- barbican/flow.Reached
noncomputable def L_v91 : List (Nat × Summ) := (91, S_v91) :: L_v135
theorem tok_v91 : TOk Kn Tryz.prog (lk L_v91) := lk_cons ok_v91 tok_v135

noncomputable abbrev S_v160 : Summ := sumE [] false Tryz.prog (lkC L_v91) 400 Tryz.f160 (Tryz.f160.body.getD .skip) []
theorem ok_v160 : SummOk Kn Tryz.prog 160 S_v160 := sumE_ok (tok_cl tok_v91) Tryz.checked.mixed Tryz.func160 (by kernel_rfl) (by rfl) 400 []   -- barbican/insn.Subs
noncomputable def L_v160 : List (Nat × Summ) := (160, S_v160) :: L_v91
theorem tok_v160 : TOk Kn Tryz.prog (lk L_v160) := lk_cons ok_v160 tok_v91

noncomputable abbrev S_v162 : Summ := sumE [] false Tryz.prog (lkC L_v160) 400 Tryz.f162 (Tryz.f162.body.getD .skip) []
theorem ok_v162 : SummOk Kn Tryz.prog 162 S_v162 := sumE_ok (tok_cl tok_v160) Tryz.checked.mixed Tryz.func162 (by kernel_rfl) (by rfl) 400 []   -- barbican/flow.Calls$1
noncomputable def L_v162 : List (Nat × Summ) := (162, S_v162) :: L_v160
theorem tok_v162 : TOk Kn Tryz.prog (lk L_v162) := lk_cons ok_v162 tok_v160

noncomputable abbrev S_v161 : Summ := sumE [] false Tryz.prog (lkC L_v162) 400 Tryz.f161 (Tryz.f161.body.getD .skip) []
theorem ok_v161 : SummOk Kn Tryz.prog 161 S_v161 := sumE_ok (tok_cl tok_v162) Tryz.checked.mixed Tryz.func161 (by kernel_rfl) (by rfl) 400 []   -- slices.IndexFunc[[]barbican/api.Part,barbican/api.Part]
noncomputable def L_v161 : List (Nat × Summ) := (161, S_v161) :: L_v162
theorem tok_v161 : TOk Kn Tryz.prog (lk L_v161) := lk_cons ok_v161 tok_v162

noncomputable abbrev S_v136 : Summ := sumE [] false Tryz.prog (lkC L_v161) 400 Tryz.f136 (Tryz.f136.body.getD .skip) []
theorem ok_v136 : SummOk Kn Tryz.prog 136 S_v136 := sumE_ok (tok_cl tok_v161) Tryz.checked.mixed Tryz.func136 (by kernel_rfl) (by rfl) 400 []   -- barbican/flow.Calls
noncomputable def L_v136 : List (Nat × Summ) := (136, S_v136) :: L_v161
theorem tok_v136 : TOk Kn Tryz.prog (lk L_v136) := lk_cons ok_v136 tok_v161

noncomputable abbrev S_v137 : Summ := sumE [] false Tryz.prog (lkC L_v136) 400 Tryz.f137 (Tryz.f137.body.getD .skip) []
theorem ok_v137 : SummOk Kn Tryz.prog 137 S_v137 := sumE_ok (tok_cl tok_v136) Tryz.checked.mixed Tryz.func137 (by kernel_rfl) (by rfl) 400 []   -- barbican/flow.Depth$1
noncomputable def L_v137 : List (Nat × Summ) := (137, S_v137) :: L_v136
theorem tok_v137 : TOk Kn Tryz.prog (lk L_v137) := lk_cons ok_v137 tok_v136

noncomputable abbrev S_v93 : Summ := sumE [] false Tryz.prog (lkC L_v137) 400 Tryz.f93 (Tryz.f93.body.getD .skip) []
theorem ok_v93 : SummOk Kn Tryz.prog 93 S_v93 := sumE_ok (tok_cl tok_v137) Tryz.checked.mixed Tryz.func93 (by kernel_rfl) (by rfl) 400 []   -- barbican/flow.Depth
noncomputable def L_v93 : List (Nat × Summ) := (93, S_v93) :: L_v137
theorem tok_v93 : TOk Kn Tryz.prog (lk L_v93) := lk_cons ok_v93 tok_v137

noncomputable abbrev S_v31 : Summ := sumE [] false Tryz.prog (lkC L_v93) 400 Tryz.f31 (Tryz.f31.body.getD .skip) []
theorem ok_v31 : SummOk Kn Tryz.prog 31 S_v31 := sumE_ok (tok_cl tok_v93) Tryz.checked.mixed Tryz.func31 (by kernel_rfl) (by rfl) 400 []   -- (*barbican/verify.check).whole
noncomputable def L_v31 : List (Nat × Summ) := (31, S_v31) :: L_v93
theorem tok_v31 : TOk Kn Tryz.prog (lk L_v31) := lk_cons ok_v31 tok_v93

noncomputable abbrev S_v32 : Summ := sumE [] false Tryz.prog (lkC L_v31) 400 Tryz.f32 (Tryz.f32.body.getD .skip) []
theorem ok_v32 : SummOk Kn Tryz.prog 32 S_v32 := sumE_ok (tok_cl tok_v31) Tryz.checked.mixed Tryz.func32 (by kernel_rfl) (by rfl) 400 []   -- barbican/verify.fresh
noncomputable def L_v32 : List (Nat × Summ) := (32, S_v32) :: L_v31
theorem tok_v32 : TOk Kn Tryz.prog (lk L_v32) := lk_cons ok_v32 tok_v31

noncomputable abbrev S_v163 : Summ := sumE [] false Tryz.prog (lkC L_v32) 400 Tryz.f163 (Tryz.f163.body.getD .skip) []
theorem ok_v163 : SummOk Kn Tryz.prog 163 S_v163 := sumE_ok (tok_cl tok_v32) Tryz.checked.mixed Tryz.func163 (by kernel_rfl) (by rfl) 400 []   -- barbican/insn.Wide
noncomputable def L_v163 : List (Nat × Summ) := (163, S_v163) :: L_v32
theorem tok_v163 : TOk Kn Tryz.prog (lk L_v163) := lk_cons ok_v163 tok_v32

noncomputable abbrev S_v138 : Summ := sumE [] false Tryz.prog (lkC L_v163) 400 Tryz.f138 (Tryz.f138.body.getD .skip) []
theorem ok_v138 : SummOk Kn Tryz.prog 138 S_v138 := sumE_ok (tok_cl tok_v163) Tryz.checked.mixed Tryz.func138 (by kernel_rfl) (by rfl) 400 []   -- (*barbican/verify.check).wide
noncomputable def L_v138 : List (Nat × Summ) := (138, S_v138) :: L_v163
theorem tok_v138 : TOk Kn Tryz.prog (lk L_v138) := lk_cons ok_v138 tok_v163

noncomputable abbrev S_v164 : Summ := sumE [] false Tryz.prog (lkC L_v138) 400 Tryz.f164 (Tryz.f164.body.getD .skip) []
theorem ok_v164 : SummOk Kn Tryz.prog 164 S_v164 := sumE_ok (tok_cl tok_v138) Tryz.checked.mixed Tryz.func164 (by kernel_rfl) (by rfl) 400 []   -- barbican/verify.written
noncomputable def L_v164 : List (Nat × Summ) := (164, S_v164) :: L_v138
theorem tok_v164 : TOk Kn Tryz.prog (lk L_v164) := lk_cons ok_v164 tok_v138

noncomputable abbrev S_v165 : Summ := sumE [] false Tryz.prog (lkC L_v164) 400 Tryz.f165 (Tryz.f165.body.getD .skip) []
theorem ok_v165 : SummOk Kn Tryz.prog 165 S_v165 := sumE_ok (tok_cl tok_v164) Tryz.checked.mixed Tryz.func165 (by kernel_rfl) (by rfl) 400 []   -- barbican/verify.size
noncomputable def L_v165 : List (Nat × Summ) := (165, S_v165) :: L_v164
theorem tok_v165 : TOk Kn Tryz.prog (lk L_v165) := lk_cons ok_v165 tok_v164

noncomputable abbrev S_v166 : Summ := sumE [] false Tryz.prog (lkC L_v165) 400 Tryz.f166 (Tryz.f166.body.getD .skip) []
theorem ok_v166 : SummOk Kn Tryz.prog 166 S_v166 := sumE_ok (tok_cl tok_v165) Tryz.checked.mixed Tryz.func166 (by kernel_rfl) (by rfl) 400 []   -- barbican/sock.Fits
noncomputable def L_v166 : List (Nat × Summ) := (166, S_v166) :: L_v165
theorem tok_v166 : TOk Kn Tryz.prog (lk L_v166) := lk_cons ok_v166 tok_v165

noncomputable abbrev S_v167 : Summ := sumE [] false Tryz.prog (lkC L_v166) 400 Tryz.f167 (Tryz.f167.body.getD .skip) []
theorem ok_v167 : SummOk Kn Tryz.prog 167 S_v167 := sumE_ok (tok_cl tok_v166) Tryz.checked.mixed Tryz.func167 (by kernel_rfl) (by rfl) 400 []   -- barbican/verify.sized
noncomputable def L_v167 : List (Nat × Summ) := (167, S_v167) :: L_v166
theorem tok_v167 : TOk Kn Tryz.prog (lk L_v167) := lk_cons ok_v167 tok_v166

noncomputable abbrev S_v206 : Summ := sumE [] false Tryz.prog (lkC L_v167) 400 Tryz.f206 (Tryz.f206.body.getD .skip) []
theorem ok_v206 : SummOk Kn Tryz.prog 206 S_v206 := sumE_ok (tok_cl tok_v167) Tryz.checked.mixed Tryz.func206 (by kernel_rfl) (by rfl) 400 []   -- barbican/verify.far
noncomputable def L_v206 : List (Nat × Summ) := (206, S_v206) :: L_v167
theorem tok_v206 : TOk Kn Tryz.prog (lk L_v206) := lk_cons ok_v206 tok_v167

noncomputable abbrev S_v236 : Summ := sumE [] false Tryz.prog (lkC L_v206) 400 Tryz.f236 (Tryz.f236.body.getD .skip) []
theorem ok_v236 : SummOk Kn Tryz.prog 236 S_v236 := sumE_ok (tok_cl tok_v206) Tryz.checked.mixed Tryz.func236 (by kernel_rfl) (by rfl) 400 []   -- barbican/scalar.Is
noncomputable def L_v236 : List (Nat × Summ) := (236, S_v236) :: L_v206
theorem tok_v236 : TOk Kn Tryz.prog (lk L_v236) := lk_cons ok_v236 tok_v206

noncomputable abbrev S_v200 : Summ := sumE [] false Tryz.prog (lkC L_v236) 400 Tryz.f200 (Tryz.f200.body.getD .skip) []
theorem ok_v200 : SummOk Kn Tryz.prog 200 S_v200 := sumE_ok (tok_cl tok_v236) Tryz.checked.mixed Tryz.func200 (by kernel_rfl) (by rfl) 400 []   -- barbican/scalar.right
noncomputable def L_v200 : List (Nat × Summ) := (200, S_v200) :: L_v236
theorem tok_v200 : TOk Kn Tryz.prog (lk L_v200) := lk_cons ok_v200 tok_v236

noncomputable abbrev S_v281 : Summ := sumE [] false Tryz.prog (lkC L_v200) 400 Tryz.f281 (Tryz.f281.body.getD .skip) []
theorem ok_v281 : SummOk Kn Tryz.prog 281 S_v281 := sumE_ok (tok_cl tok_v200) Tryz.checked.mixed Tryz.func281 (by kernel_rfl) (by rfl) 400 []   -- barbican/alu.add
noncomputable def L_v281 : List (Nat × Summ) := (281, S_v281) :: L_v200
theorem tok_v281 : TOk Kn Tryz.prog (lk L_v281) := lk_cons ok_v281 tok_v200

noncomputable abbrev S_v282 : Summ := sumE [] false Tryz.prog (lkC L_v281) 400 Tryz.f282 (Tryz.f282.body.getD .skip) []
theorem ok_v282 : SummOk Kn Tryz.prog 282 S_v282 := sumE_ok (tok_cl tok_v281) Tryz.checked.mixed Tryz.func282 (by kernel_rfl) (by rfl) 400 []   -- barbican/alu.sub
noncomputable def L_v282 : List (Nat × Summ) := (282, S_v282) :: L_v281
theorem tok_v282 : TOk Kn Tryz.prog (lk L_v282) := lk_cons ok_v282 tok_v281

noncomputable abbrev S_v283 : Summ := sumE [] false Tryz.prog (lkC L_v282) 400 Tryz.f283 (Tryz.f283.body.getD .skip) []
theorem ok_v283 : SummOk Kn Tryz.prog 283 S_v283 := sumE_ok (tok_cl tok_v282) Tryz.checked.mixed Tryz.func283 (by kernel_rfl) (by rfl) 400 []   -- barbican/alu.mul
noncomputable def L_v283 : List (Nat × Summ) := (283, S_v283) :: L_v282
theorem tok_v283 : TOk Kn Tryz.prog (lk L_v283) := lk_cons ok_v283 tok_v282

noncomputable abbrev S_v284 : Summ := sumE [] false Tryz.prog (lkC L_v283) 400 Tryz.f284 (Tryz.f284.body.getD .skip) []
theorem ok_v284 : SummOk Kn Tryz.prog 284 S_v284 := sumE_ok (tok_cl tok_v283) Tryz.checked.mixed Tryz.func284 (by kernel_rfl) (by rfl) 400 []   -- barbican/alu.div
noncomputable def L_v284 : List (Nat × Summ) := (284, S_v284) :: L_v283
theorem tok_v284 : TOk Kn Tryz.prog (lk L_v284) := lk_cons ok_v284 tok_v283

noncomputable abbrev S_v285 : Summ := sumE [] false Tryz.prog (lkC L_v284) 400 Tryz.f285 (Tryz.f285.body.getD .skip) []
theorem ok_v285 : SummOk Kn Tryz.prog 285 S_v285 := sumE_ok (tok_cl tok_v284) Tryz.checked.mixed Tryz.func285 (by kernel_rfl) (by rfl) 400 []   -- barbican/alu.or
noncomputable def L_v285 : List (Nat × Summ) := (285, S_v285) :: L_v284
theorem tok_v285 : TOk Kn Tryz.prog (lk L_v285) := lk_cons ok_v285 tok_v284

noncomputable abbrev S_v286 : Summ := sumE [] false Tryz.prog (lkC L_v285) 400 Tryz.f286 (Tryz.f286.body.getD .skip) []
theorem ok_v286 : SummOk Kn Tryz.prog 286 S_v286 := sumE_ok (tok_cl tok_v285) Tryz.checked.mixed Tryz.func286 (by kernel_rfl) (by rfl) 400 []   -- barbican/alu.and
noncomputable def L_v286 : List (Nat × Summ) := (286, S_v286) :: L_v285
theorem tok_v286 : TOk Kn Tryz.prog (lk L_v286) := lk_cons ok_v286 tok_v285

noncomputable abbrev S_v287 : Summ := sumE [] false Tryz.prog (lkC L_v286) 400 Tryz.f287 (Tryz.f287.body.getD .skip) []
theorem ok_v287 : SummOk Kn Tryz.prog 287 S_v287 := sumE_ok (tok_cl tok_v286) Tryz.checked.mixed Tryz.func287 (by kernel_rfl) (by rfl) 400 []   -- barbican/alu.lsh
noncomputable def L_v287 : List (Nat × Summ) := (287, S_v287) :: L_v286
theorem tok_v287 : TOk Kn Tryz.prog (lk L_v287) := lk_cons ok_v287 tok_v286

noncomputable abbrev S_v288 : Summ := sumE [] false Tryz.prog (lkC L_v287) 400 Tryz.f288 (Tryz.f288.body.getD .skip) []
theorem ok_v288 : SummOk Kn Tryz.prog 288 S_v288 := sumE_ok (tok_cl tok_v287) Tryz.checked.mixed Tryz.func288 (by kernel_rfl) (by rfl) 400 []   -- barbican/alu.rsh
noncomputable def L_v288 : List (Nat × Summ) := (288, S_v288) :: L_v287
theorem tok_v288 : TOk Kn Tryz.prog (lk L_v288) := lk_cons ok_v288 tok_v287

noncomputable abbrev S_v289 : Summ := sumE [] false Tryz.prog (lkC L_v288) 400 Tryz.f289 (Tryz.f289.body.getD .skip) []
theorem ok_v289 : SummOk Kn Tryz.prog 289 S_v289 := sumE_ok (tok_cl tok_v288) Tryz.checked.mixed Tryz.func289 (by kernel_rfl) (by rfl) 400 []   -- barbican/alu.neg
noncomputable def L_v289 : List (Nat × Summ) := (289, S_v289) :: L_v288
theorem tok_v289 : TOk Kn Tryz.prog (lk L_v289) := lk_cons ok_v289 tok_v288

noncomputable abbrev S_v290 : Summ := sumE [] false Tryz.prog (lkC L_v289) 400 Tryz.f290 (Tryz.f290.body.getD .skip) []
theorem ok_v290 : SummOk Kn Tryz.prog 290 S_v290 := sumE_ok (tok_cl tok_v289) Tryz.checked.mixed Tryz.func290 (by kernel_rfl) (by rfl) 400 []   -- barbican/alu.mod
noncomputable def L_v290 : List (Nat × Summ) := (290, S_v290) :: L_v289
theorem tok_v290 : TOk Kn Tryz.prog (lk L_v290) := lk_cons ok_v290 tok_v289

noncomputable abbrev S_v291 : Summ := sumE [] false Tryz.prog (lkC L_v290) 400 Tryz.f291 (Tryz.f291.body.getD .skip) []
theorem ok_v291 : SummOk Kn Tryz.prog 291 S_v291 := sumE_ok (tok_cl tok_v290) Tryz.checked.mixed Tryz.func291 (by kernel_rfl) (by rfl) 400 []   -- barbican/alu.xor
noncomputable def L_v291 : List (Nat × Summ) := (291, S_v291) :: L_v290
theorem tok_v291 : TOk Kn Tryz.prog (lk L_v291) := lk_cons ok_v291 tok_v290

noncomputable abbrev S_v292 : Summ := sumE [] false Tryz.prog (lkC L_v291) 400 Tryz.f292 (Tryz.f292.body.getD .skip) []
theorem ok_v292 : SummOk Kn Tryz.prog 292 S_v292 := sumE_ok (tok_cl tok_v291) Tryz.checked.mixed Tryz.func292 (by kernel_rfl) (by rfl) 400 []   -- barbican/alu.mov
noncomputable def L_v292 : List (Nat × Summ) := (292, S_v292) :: L_v291
theorem tok_v292 : TOk Kn Tryz.prog (lk L_v292) := lk_cons ok_v292 tok_v291

noncomputable abbrev S_v293 : Summ := sumE [] false Tryz.prog (lkC L_v292) 400 Tryz.f293 (Tryz.f293.body.getD .skip) []
theorem ok_v293 : SummOk Kn Tryz.prog 293 S_v293 := sumE_ok (tok_cl tok_v292) Tryz.checked.mixed Tryz.func293 (by kernel_rfl) (by rfl) 400 []   -- barbican/alu.arsh
noncomputable def L_v293 : List (Nat × Summ) := (293, S_v293) :: L_v292
theorem tok_v293 : TOk Kn Tryz.prog (lk L_v293) := lk_cons ok_v293 tok_v292

noncomputable abbrev S_v237 : Summ := sumE [] false Tryz.prog (lkC L_v293) 400 Tryz.f237 (Tryz.f237.body.getD .skip) []
theorem ok_v237 : SummOk Kn Tryz.prog 237 S_v237 := sumE_ok (tok_cl tok_v293) Tryz.checked.mixed Tryz.func237 (by kernel_rfl) (by rfl) 400 []   -- barbican/alu.tabled
noncomputable def L_v237 : List (Nat × Summ) := (237, S_v237) :: L_v293
theorem tok_v237 : TOk Kn Tryz.prog (lk L_v237) := lk_cons ok_v237 tok_v293

noncomputable abbrev S_v238 : Summ := sumE [] false Tryz.prog (lkC L_v237) 400 Tryz.f238 (Tryz.f238.body.getD .skip) []
theorem ok_v238 : SummOk Kn Tryz.prog 238 S_v238 := sumE_ok (tok_cl tok_v237) Tryz.checked.mixed Tryz.func238 (by kernel_rfl) (by rfl) 400 []   -- barbican/alu.low
noncomputable def L_v238 : List (Nat × Summ) := (238, S_v238) :: L_v237
theorem tok_v238 : TOk Kn Tryz.prog (lk L_v238) := lk_cons ok_v238 tok_v237

noncomputable abbrev S_v201 : Summ := sumE [] false Tryz.prog (lkC L_v238) 400 Tryz.f201 (Tryz.f201.body.getD .skip) []
theorem ok_v201 : SummOk Kn Tryz.prog 201 S_v201 := sumE_ok (tok_cl tok_v238) Tryz.checked.mixed Tryz.func201 (by kernel_rfl) (by rfl) 400 []   -- barbican/alu.Do
noncomputable def L_v201 : List (Nat × Summ) := (201, S_v201) :: L_v238
theorem tok_v201 : TOk Kn Tryz.prog (lk L_v201) := lk_cons ok_v201 tok_v238

noncomputable abbrev S_v202 : Summ := sumE [] false Tryz.prog (lkC L_v201) 400 Tryz.f202 (Tryz.f202.body.getD .skip) []
theorem ok_v202 : SummOk Kn Tryz.prog 202 S_v202 := sumE_ok (tok_cl tok_v201) Tryz.checked.mixed Tryz.func202 (by kernel_rfl) (by rfl) 400 []   -- barbican/scalar.isConst
noncomputable def L_v202 : List (Nat × Summ) := (202, S_v202) :: L_v201
theorem tok_v202 : TOk Kn Tryz.prog (lk L_v202) := lk_cons ok_v202 tok_v201

noncomputable abbrev S_v239 : Summ := sumE [] false Tryz.prog (lkC L_v202) 400 Tryz.f239 (Tryz.f239.body.getD .skip) []
theorem ok_v239 : SummOk Kn Tryz.prog 239 S_v239 := sumE_ok (tok_cl tok_v202) Tryz.checked.mixed Tryz.func239 (by kernel_rfl) (by rfl) 400 []   -- barbican/tnum.Low
noncomputable def L_v239 : List (Nat × Summ) := (239, S_v239) :: L_v202
theorem tok_v239 : TOk Kn Tryz.prog (lk L_v239) := lk_cons ok_v239 tok_v202

noncomputable abbrev S_v203 : Summ := sumE [] false Tryz.prog (lkC L_v239) 400 Tryz.f203 (Tryz.f203.body.getD .skip) []
theorem ok_v203 : SummOk Kn Tryz.prog 203 S_v203 := sumE_ok (tok_cl tok_v239) Tryz.checked.mixed Tryz.func203 (by kernel_rfl) (by rfl) 400 []   -- barbican/scalar.low
noncomputable def L_v203 : List (Nat × Summ) := (203, S_v203) :: L_v239
theorem tok_v203 : TOk Kn Tryz.prog (lk L_v203) := lk_cons ok_v203 tok_v239

noncomputable abbrev S_v240 : Summ := sumE [] false Tryz.prog (lkC L_v203) 400 Tryz.f240 (Tryz.f240.body.getD .skip) []
theorem ok_v240 : SummOk Kn Tryz.prog 240 S_v240 := sumE_ok (tok_cl tok_v203) Tryz.checked.mixed Tryz.func240 (by kernel_rfl) (by rfl) 400 []   -- barbican/tnum.Add
noncomputable def L_v240 : List (Nat × Summ) := (240, S_v240) :: L_v203
theorem tok_v240 : TOk Kn Tryz.prog (lk L_v240) := lk_cons ok_v240 tok_v203

theorem ok_v294 : SummOk Kn Tryz.prog 294 add64X := add64_okX Tryz.func294 (by kernel_rfl) (by kernel_rfl) (by kernel_rfl) (by kernel_rfl)   -- math/bits.Add64
noncomputable def L_v294 : List (Nat × Summ) := (294, add64X) :: L_v240
theorem tok_v294 : TOk Kn Tryz.prog (lk L_v294) := lk_cons ok_v294 tok_v240

noncomputable abbrev S_v295 : Summ := sumE [] false Tryz.prog (lkC L_v294) 400 Tryz.f295 (Tryz.f295.body.getD .skip) []
theorem ok_v295 : SummOk Kn Tryz.prog 295 S_v295 := sumE_ok (tok_cl tok_v294) Tryz.checked.mixed Tryz.func295 (by kernel_rfl) (by rfl) 400 []   -- barbican/scalar.plusSigned
noncomputable def L_v295 : List (Nat × Summ) := (295, S_v295) :: L_v294
theorem tok_v295 : TOk Kn Tryz.prog (lk L_v295) := lk_cons ok_v295 tok_v294

noncomputable abbrev S_v241 : Summ := sumE [] false Tryz.prog (lkC L_v295) 400 Tryz.f241 (Tryz.f241.body.getD .skip) []
theorem ok_v241 : SummOk Kn Tryz.prog 241 S_v241 := sumE_ok (tok_cl tok_v295) Tryz.checked.mixed Tryz.func241 (by kernel_rfl) (by rfl) 400 []   -- barbican/scalar.sums
noncomputable def L_v241 : List (Nat × Summ) := (241, S_v241) :: L_v295
theorem tok_v241 : TOk Kn Tryz.prog (lk L_v241) := lk_cons ok_v241 tok_v295

noncomputable abbrev S_v242 : Summ := sumE [] false Tryz.prog (lkC L_v241) 400 Tryz.f242 (Tryz.f242.body.getD .skip) []
theorem ok_v242 : SummOk Kn Tryz.prog 242 S_v242 := sumE_ok (tok_cl tok_v241) Tryz.checked.mixed Tryz.func242 (by kernel_rfl) (by rfl) 400 []   -- barbican/tnum.Sub
noncomputable def L_v242 : List (Nat × Summ) := (242, S_v242) :: L_v241
theorem tok_v242 : TOk Kn Tryz.prog (lk L_v242) := lk_cons ok_v242 tok_v241

noncomputable abbrev S_v296 : Summ := sumE [] false Tryz.prog (lkC L_v242) 400 Tryz.f296 (Tryz.f296.body.getD .skip) []
theorem ok_v296 : SummOk Kn Tryz.prog 296 S_v296 := sumE_ok (tok_cl tok_v242) Tryz.checked.mixed Tryz.func296 (by kernel_rfl) (by rfl) 400 []   -- barbican/scalar.minusSigned
noncomputable def L_v296 : List (Nat × Summ) := (296, S_v296) :: L_v242
theorem tok_v296 : TOk Kn Tryz.prog (lk L_v296) := lk_cons ok_v296 tok_v242

noncomputable abbrev S_v243 : Summ := sumE [] false Tryz.prog (lkC L_v296) 400 Tryz.f243 (Tryz.f243.body.getD .skip) []
theorem ok_v243 : SummOk Kn Tryz.prog 243 S_v243 := sumE_ok (tok_cl tok_v296) Tryz.checked.mixed Tryz.func243 (by kernel_rfl) (by rfl) 400 []   -- barbican/scalar.rests
noncomputable def L_v243 : List (Nat × Summ) := (243, S_v243) :: L_v296
theorem tok_v243 : TOk Kn Tryz.prog (lk L_v243) := lk_cons ok_v243 tok_v296

noncomputable abbrev S_v321 : Summ := sumE [] false Tryz.prog (lkC L_v243) 400 Tryz.f321 (Tryz.f321.body.getD .skip) []
theorem ok_v321 : SummOk Kn Tryz.prog 321 S_v321 := sumE_ok (tok_cl tok_v243) Tryz.checked.mixed Tryz.func321 (by kernel_rfl) (by rfl) 400 []   -- math/bits.TrailingZeros64
noncomputable def L_v321 : List (Nat × Summ) := (321, S_v321) :: L_v243
theorem tok_v321 : TOk Kn Tryz.prog (lk L_v321) := lk_cons ok_v321 tok_v243

noncomputable abbrev S_v297 : Summ := sumE [] false Tryz.prog (lkC L_v321) 400 Tryz.f297 (Tryz.f297.body.getD .skip) []
theorem ok_v297 : SummOk Kn Tryz.prog 297 S_v297 := sumE_ok (tok_cl tok_v321) Tryz.checked.mixed Tryz.func297 (by kernel_rfl) (by rfl) 400 []   -- barbican/tnum.noughts
noncomputable def L_v297 : List (Nat × Summ) := (297, S_v297) :: L_v321
theorem tok_v297 : TOk Kn Tryz.prog (lk L_v297) := lk_cons ok_v297 tok_v321

noncomputable abbrev S_v305 : Summ := sumE [] false Tryz.prog (lkC L_v297) 400 Tryz.f305 (Tryz.f305.body.getD .skip) []
theorem ok_v305 : SummOk Kn Tryz.prog 305 S_v305 := sumE_ok (tok_cl tok_v297) Tryz.checked.mixed Tryz.func305 (by kernel_rfl) (by rfl) 400 []   -- barbican/tnum.times
noncomputable def L_v305 : List (Nat × Summ) := (305, S_v305) :: L_v297
theorem tok_v305 : TOk Kn Tryz.prog (lk L_v305) := lk_cons ok_v305 tok_v297

noncomputable abbrev S_v298 : Summ := sumE [] false Tryz.prog (lkC L_v305) 400 Tryz.f298 (Tryz.f298.body.getD .skip) []
theorem ok_v298 : SummOk Kn Tryz.prog 298 S_v298 := sumE_ok (tok_cl tok_v305) Tryz.checked.mixed Tryz.func298 (by kernel_rfl) (by rfl) 400 []   -- barbican/tnum.Rsh
noncomputable def L_v298 : List (Nat × Summ) := (298, S_v298) :: L_v305
theorem tok_v298 : TOk Kn Tryz.prog (lk L_v298) := lk_cons ok_v298 tok_v305

noncomputable abbrev S_v299 : Summ := sumE [] false Tryz.prog (lkC L_v298) 400 Tryz.f299 (Tryz.f299.body.getD .skip) []
theorem ok_v299 : SummOk Kn Tryz.prog 299 S_v299 := sumE_ok (tok_cl tok_v298) Tryz.checked.mixed Tryz.func299 (by kernel_rfl) (by rfl) 400 []   -- barbican/tnum.Lsh
noncomputable def L_v299 : List (Nat × Summ) := (299, S_v299) :: L_v298
theorem tok_v299 : TOk Kn Tryz.prog (lk L_v299) := lk_cons ok_v299 tok_v298

noncomputable abbrev S_v244 : Summ := sumE [] false Tryz.prog (lkC L_v299) 400 Tryz.f244 (Tryz.f244.body.getD .skip) []
theorem ok_v244 : SummOk Kn Tryz.prog 244 S_v244 := sumE_ok (tok_cl tok_v299) Tryz.checked.mixed Tryz.func244 (by kernel_rfl) (by rfl) 400 []   -- barbican/tnum.Mul
noncomputable def L_v244 : List (Nat × Summ) := (244, S_v244) :: L_v299
theorem tok_v244 : TOk Kn Tryz.prog (lk L_v244) := lk_cons ok_v244 tok_v299

noncomputable abbrev S_v300 : Summ := sumE [] false Tryz.prog (lkC L_v244) 400 Tryz.f300 (Tryz.f300.body.getD .skip) []
theorem ok_v300 : SummOk Kn Tryz.prog 300 S_v300 := sumE_ok (tok_cl tok_v244) Tryz.checked.mixed Tryz.func300 (by kernel_rfl) (by rfl) 400 []   -- math/bits.Mul64
noncomputable def L_v300 : List (Nat × Summ) := (300, S_v300) :: L_v244
theorem tok_v300 : TOk Kn Tryz.prog (lk L_v300) := lk_cons ok_v300 tok_v244

noncomputable abbrev S_v245 : Summ := sumE [] false Tryz.prog (lkC L_v300) 400 Tryz.f245 (Tryz.f245.body.getD .skip) []
theorem ok_v245 : SummOk Kn Tryz.prog 245 S_v245 := sumE_ok (tok_cl tok_v300) Tryz.checked.mixed Tryz.func245 (by kernel_rfl) (by rfl) 400 []   -- barbican/scalar.products
noncomputable def L_v245 : List (Nat × Summ) := (245, S_v245) :: L_v300
theorem tok_v245 : TOk Kn Tryz.prog (lk L_v245) := lk_cons ok_v245 tok_v300

noncomputable abbrev S_v302 : Summ := sumE [] false Tryz.prog (lkC L_v245) 400 Tryz.f302 (Tryz.f302.body.getD .skip) []
theorem ok_v302 : SummOk Kn Tryz.prog 302 S_v302 := sumE_ok (tok_cl tok_v245) Tryz.checked.mixed Tryz.func302 (by kernel_rfl) (by rfl) 400 []   -- (barbican/tnum.pair).and
noncomputable def L_v302 : List (Nat × Summ) := (302, S_v302) :: L_v245
theorem tok_v302 : TOk Kn Tryz.prog (lk L_v302) := lk_cons ok_v302 tok_v245

noncomputable abbrev S_v303 : Summ := sumE [] false Tryz.prog (lkC L_v302) 400 Tryz.f303 (Tryz.f303.body.getD .skip) []
theorem ok_v303 : SummOk Kn Tryz.prog 303 S_v303 := sumE_ok (tok_cl tok_v302) Tryz.checked.mixed Tryz.func303 (by kernel_rfl) (by rfl) 400 []   -- (barbican/tnum.pair).or
noncomputable def L_v303 : List (Nat × Summ) := (303, S_v303) :: L_v302
theorem tok_v303 : TOk Kn Tryz.prog (lk L_v303) := lk_cons ok_v303 tok_v302

noncomputable abbrev S_v304 : Summ := sumE [] false Tryz.prog (lkC L_v303) 400 Tryz.f304 (Tryz.f304.body.getD .skip) []
theorem ok_v304 : SummOk Kn Tryz.prog 304 S_v304 := sumE_ok (tok_cl tok_v303) Tryz.checked.mixed Tryz.func304 (by kernel_rfl) (by rfl) 400 []   -- (barbican/tnum.pair).xor
noncomputable def L_v304 : List (Nat × Summ) := (304, S_v304) :: L_v303
theorem tok_v304 : TOk Kn Tryz.prog (lk L_v304) := lk_cons ok_v304 tok_v303

noncomputable abbrev S_v301 : Summ := sumE [] false Tryz.prog (lkC L_v304) 400 Tryz.f301 (Tryz.f301.body.getD .skip) []
theorem ok_v301 : SummOk Kn Tryz.prog 301 S_v301 := sumE_ok (tok_cl tok_v304) Tryz.checked.mixed Tryz.func301 (by kernel_rfl) (by rfl) 400 []   -- barbican/tnum.of
noncomputable def L_v301 : List (Nat × Summ) := (301, S_v301) :: L_v304
theorem tok_v301 : TOk Kn Tryz.prog (lk L_v301) := lk_cons ok_v301 tok_v304

noncomputable abbrev S_v246 : Summ := sumE [] false Tryz.prog (lkC L_v301) 400 Tryz.f246 (Tryz.f246.body.getD .skip) []
theorem ok_v246 : SummOk Kn Tryz.prog 246 S_v246 := sumE_ok (tok_cl tok_v301) Tryz.checked.mixed Tryz.func246 (by kernel_rfl) (by rfl) 400 []   -- barbican/tnum.And
noncomputable def L_v246 : List (Nat × Summ) := (246, S_v246) :: L_v301
theorem tok_v246 : TOk Kn Tryz.prog (lk L_v246) := lk_cons ok_v246 tok_v301

noncomputable abbrev S_v247 : Summ := sumE [] false Tryz.prog (lkC L_v246) 400 Tryz.f247 (Tryz.f247.body.getD .skip) []
theorem ok_v247 : SummOk Kn Tryz.prog 247 S_v247 := sumE_ok (tok_cl tok_v246) Tryz.checked.mixed Tryz.func247 (by kernel_rfl) (by rfl) 400 []   -- barbican/tnum.Or
noncomputable def L_v247 : List (Nat × Summ) := (247, S_v247) :: L_v246
theorem tok_v247 : TOk Kn Tryz.prog (lk L_v247) := lk_cons ok_v247 tok_v246

noncomputable abbrev S_v248 : Summ := sumE [] false Tryz.prog (lkC L_v247) 400 Tryz.f248 (Tryz.f248.body.getD .skip) []
theorem ok_v248 : SummOk Kn Tryz.prog 248 S_v248 := sumE_ok (tok_cl tok_v247) Tryz.checked.mixed Tryz.func248 (by kernel_rfl) (by rfl) 400 []   -- barbican/tnum.Xor
noncomputable def L_v248 : List (Nat × Summ) := (248, S_v248) :: L_v247
theorem tok_v248 : TOk Kn Tryz.prog (lk L_v248) := lk_cons ok_v248 tok_v247

noncomputable abbrev S_v250 : Summ := sumE [] false Tryz.prog (lkC L_v248) 400 Tryz.f250 (Tryz.f250.body.getD .skip) []
theorem ok_v250 : SummOk Kn Tryz.prog 250 S_v250 := sumE_ok (tok_cl tok_v248) Tryz.checked.mixed Tryz.func250 (by kernel_rfl) (by rfl) 400 []   -- barbican/tnum.Arsh
noncomputable def L_v250 : List (Nat × Summ) := (250, S_v250) :: L_v248
theorem tok_v250 : TOk Kn Tryz.prog (lk L_v250) := lk_cons ok_v250 tok_v248

noncomputable abbrev S_v249 : Summ := sumE [] false Tryz.prog (lkC L_v250) 400 Tryz.f249 (Tryz.f249.body.getD .skip) []
theorem ok_v249 : SummOk Kn Tryz.prog 249 S_v249 := sumE_ok (tok_cl tok_v250) Tryz.checked.mixed Tryz.func249 (by kernel_rfl) (by rfl) 400 []   -- barbican/scalar.shifts
noncomputable def L_v249 : List (Nat × Summ) := (249, S_v249) :: L_v250
theorem tok_v249 : TOk Kn Tryz.prog (lk L_v249) := lk_cons ok_v249 tok_v250

noncomputable abbrev S_v204 : Summ := sumE [] false Tryz.prog (lkC L_v249) 400 Tryz.f204 (Tryz.f204.body.getD .skip) []
theorem ok_v204 : SummOk Kn Tryz.prog 204 S_v204 := sumE_ok (tok_cl tok_v249) Tryz.checked.mixed Tryz.func204 (by kernel_rfl) (by rfl) 400 []   -- barbican/scalar.whole
noncomputable def L_v204 : List (Nat × Summ) := (204, S_v204) :: L_v249
theorem tok_v204 : TOk Kn Tryz.prog (lk L_v204) := lk_cons ok_v204 tok_v249

noncomputable abbrev S_v205 : Summ := sumE [] false Tryz.prog (lkC L_v204) 400 Tryz.f205 (Tryz.f205.body.getD .skip) []
theorem ok_v205 : SummOk Kn Tryz.prog 205 S_v205 := sumE_ok (tok_cl tok_v204) Tryz.checked.mixed Tryz.func205 (by kernel_rfl) (by rfl) 400 []   -- barbican/scalar.part
noncomputable def L_v205 : List (Nat × Summ) := (205, S_v205) :: L_v204
theorem tok_v205 : TOk Kn Tryz.prog (lk L_v205) := lk_cons ok_v205 tok_v204

noncomputable abbrev S_v174 : Summ := sumE [] false Tryz.prog (lkC L_v205) 400 Tryz.f174 (Tryz.f174.body.getD .skip) []
theorem ok_v174 : SummOk Kn Tryz.prog 174 S_v174 := sumE_ok (tok_cl tok_v205) Tryz.checked.mixed Tryz.func174 (by kernel_rfl) (by rfl) 400 []   -- barbican/scalar.Do
noncomputable def L_v174 : List (Nat × Summ) := (174, S_v174) :: L_v205
theorem tok_v174 : TOk Kn Tryz.prog (lk L_v174) := lk_cons ok_v174 tok_v205

noncomputable abbrev S_v207 : Summ := sumE [] false Tryz.prog (lkC L_v174) 400 Tryz.f207 (Tryz.f207.body.getD .skip) []
theorem ok_v207 : SummOk Kn Tryz.prog 207 S_v207 := sumE_ok (tok_cl tok_v174) Tryz.checked.mixed Tryz.func207 (by kernel_rfl) (by rfl) 400 []   -- barbican/verify.moved$1
noncomputable def L_v207 : List (Nat × Summ) := (207, S_v207) :: L_v174
theorem tok_v207 : TOk Kn Tryz.prog (lk L_v207) := lk_cons ok_v207 tok_v174

noncomputable abbrev S_v175 : Summ := sumE [] false Tryz.prog (lkC L_v207) 400 Tryz.f175 (Tryz.f175.body.getD .skip) []
theorem ok_v175 : SummOk Kn Tryz.prog 175 S_v175 := sumE_ok (tok_cl tok_v207) Tryz.checked.mixed Tryz.func175 (by kernel_rfl) (by rfl) 400 []   -- barbican/verify.moved
noncomputable def L_v175 : List (Nat × Summ) := (175, S_v175) :: L_v207
theorem tok_v175 : TOk Kn Tryz.prog (lk L_v175) := lk_cons ok_v175 tok_v207

noncomputable abbrev S_v168 : Summ := sumE [] false Tryz.prog (lkC L_v175) 400 Tryz.f168 (Tryz.f168.body.getD .skip) []
theorem ok_v168 : SummOk Kn Tryz.prog 168 S_v168 := sumE_ok (tok_cl tok_v175) Tryz.checked.mixed Tryz.func168 (by kernel_rfl) (by rfl) 400 []   -- barbican/verify.placed
noncomputable def L_v168 : List (Nat × Summ) := (168, S_v168) :: L_v175
theorem tok_v168 : TOk Kn Tryz.prog (lk L_v168) := lk_cons ok_v168 tok_v175

noncomputable abbrev S_v170 : Summ := sumE [] false Tryz.prog (lkC L_v168) 400 Tryz.f170 (Tryz.f170.body.getD .skip) []
theorem ok_v170 : SummOk Kn Tryz.prog 170 S_v170 := sumE_ok (tok_cl tok_v168) Tryz.checked.mixed Tryz.func170 (by kernel_rfl) (by rfl) 400 []   -- (*barbican/verify.frame).readable
noncomputable def L_v170 : List (Nat × Summ) := (170, S_v170) :: L_v168
theorem tok_v170 : TOk Kn Tryz.prog (lk L_v170) := lk_cons ok_v170 tok_v168

noncomputable abbrev S_v169 : Summ := sumE [] false Tryz.prog (lkC L_v170) 400 Tryz.f169 (Tryz.f169.body.getD .skip) []
theorem ok_v169 : SummOk Kn Tryz.prog 169 S_v169 := sumE_ok (tok_cl tok_v170) Tryz.checked.mixed Tryz.func169 (by kernel_rfl) (by rfl) 400 []   -- (*barbican/verify.state).reads
noncomputable def L_v169 : List (Nat × Summ) := (169, S_v169) :: L_v170
theorem tok_v169 : TOk Kn Tryz.prog (lk L_v169) := lk_cons ok_v169 tok_v170

noncomputable abbrev S_v139 : Summ := sumE [] false Tryz.prog (lkC L_v169) 400 Tryz.f139 (Tryz.f139.body.getD .skip) []
theorem ok_v139 : SummOk Kn Tryz.prog 139 S_v139 := sumE_ok (tok_cl tok_v169) Tryz.checked.mixed Tryz.func139 (by kernel_rfl) (by rfl) 400 []   -- (*barbican/verify.state).load
noncomputable def L_v139 : List (Nat × Summ) := (139, S_v139) :: L_v169
theorem tok_v139 : TOk Kn Tryz.prog (lk L_v139) := lk_cons ok_v139 tok_v169

noncomputable abbrev S_v171 : Summ := sumE [] false Tryz.prog (lkC L_v139) 400 Tryz.f171 (Tryz.f171.body.getD .skip) []
theorem ok_v171 : SummOk Kn Tryz.prog 171 S_v171 := sumE_ok (tok_cl tok_v139) Tryz.checked.mixed Tryz.func171 (by kernel_rfl) (by rfl) 400 []   -- (*barbican/verify.frame).lays
noncomputable def L_v171 : List (Nat × Summ) := (171, S_v171) :: L_v139
theorem tok_v171 : TOk Kn Tryz.prog (lk L_v171) := lk_cons ok_v171 tok_v139

noncomputable abbrev S_v140 : Summ := sumE [] false Tryz.prog (lkC L_v171) 400 Tryz.f140 (Tryz.f140.body.getD .skip) []
theorem ok_v140 : SummOk Kn Tryz.prog 140 S_v140 := sumE_ok (tok_cl tok_v171) Tryz.checked.mixed Tryz.func140 (by kernel_rfl) (by rfl) 400 []   -- (*barbican/verify.state).store
noncomputable def L_v140 : List (Nat × Summ) := (140, S_v140) :: L_v171
theorem tok_v140 : TOk Kn Tryz.prog (lk L_v140) := lk_cons ok_v140 tok_v171

noncomputable abbrev S_v278 : Summ := sumE [] false Tryz.prog (lkC L_v140) 400 Tryz.f278 (Tryz.f278.body.getD .skip) []
theorem ok_v278 : SummOk Kn Tryz.prog 278 S_v278 := sumE_ok (tok_cl tok_v140) Tryz.checked.mixed Tryz.func278 (by kernel_rfl) (by rfl) 400 []   -- math/bits.ReverseBytes16
noncomputable def L_v278 : List (Nat × Summ) := (278, S_v278) :: L_v140
theorem tok_v278 : TOk Kn Tryz.prog (lk L_v278) := lk_cons ok_v278 tok_v140

noncomputable abbrev S_v279 : Summ := sumE [] false Tryz.prog (lkC L_v278) 400 Tryz.f279 (Tryz.f279.body.getD .skip) []
theorem ok_v279 : SummOk Kn Tryz.prog 279 S_v279 := sumE_ok (tok_cl tok_v278) Tryz.checked.mixed Tryz.func279 (by kernel_rfl) (by rfl) 400 []   -- math/bits.ReverseBytes32
noncomputable def L_v279 : List (Nat × Summ) := (279, S_v279) :: L_v278
theorem tok_v279 : TOk Kn Tryz.prog (lk L_v279) := lk_cons ok_v279 tok_v278

noncomputable abbrev S_v280 : Summ := sumE [] false Tryz.prog (lkC L_v279) 400 Tryz.f280 (Tryz.f280.body.getD .skip) []
theorem ok_v280 : SummOk Kn Tryz.prog 280 S_v280 := sumE_ok (tok_cl tok_v279) Tryz.checked.mixed Tryz.func280 (by kernel_rfl) (by rfl) 400 []   -- math/bits.ReverseBytes64
noncomputable def L_v280 : List (Nat × Summ) := (280, S_v280) :: L_v279
theorem tok_v280 : TOk Kn Tryz.prog (lk L_v280) := lk_cons ok_v280 tok_v279

noncomputable abbrev S_v235 : Summ := sumE [] false Tryz.prog (lkC L_v280) 400 Tryz.f235 (Tryz.f235.body.getD .skip) []
theorem ok_v235 : SummOk Kn Tryz.prog 235 S_v235 := sumE_ok (tok_cl tok_v280) Tryz.checked.mixed Tryz.func235 (by kernel_rfl) (by rfl) 400 []   -- barbican/alu.Turn
noncomputable def L_v235 : List (Nat × Summ) := (235, S_v235) :: L_v280
theorem tok_v235 : TOk Kn Tryz.prog (lk L_v235) := lk_cons ok_v235 tok_v280

noncomputable abbrev S_v233 : Summ := sumE [] false Tryz.prog (lkC L_v235) 400 Tryz.f233 (Tryz.f233.body.getD .skip) []
theorem ok_v233 : SummOk Kn Tryz.prog 233 S_v233 := sumE_ok (tok_cl tok_v235) Tryz.checked.mixed Tryz.func233 (by kernel_rfl) (by rfl) 400 []   -- barbican/alu.Swap
noncomputable def L_v233 : List (Nat × Summ) := (233, S_v233) :: L_v235
theorem tok_v233 : TOk Kn Tryz.prog (lk L_v233) := lk_cons ok_v233 tok_v235

noncomputable abbrev S_v232 : Summ := sumE [] false Tryz.prog (lkC L_v233) 400 Tryz.f232 (Tryz.f232.body.getD .skip) []
theorem ok_v232 : SummOk Kn Tryz.prog 232 S_v232 := sumE_ok (tok_cl tok_v233) Tryz.checked.mixed Tryz.func232 (by kernel_rfl) (by rfl) 400 []   -- barbican/scalar.Swap$1
noncomputable def L_v232 : List (Nat × Summ) := (232, S_v232) :: L_v233
theorem tok_v232 : TOk Kn Tryz.prog (lk L_v232) := lk_cons ok_v232 tok_v233

noncomputable abbrev S_v234 : Summ := sumE [] false Tryz.prog (lkC L_v232) 400 Tryz.f234 (Tryz.f234.body.getD .skip) []
theorem ok_v234 : SummOk Kn Tryz.prog 234 S_v234 := sumE_ok (tok_cl tok_v232) Tryz.checked.mixed Tryz.func234 (by kernel_rfl) (by rfl) 400 []   -- barbican/scalar.Swap$2
noncomputable def L_v234 : List (Nat × Summ) := (234, S_v234) :: L_v232
theorem tok_v234 : TOk Kn Tryz.prog (lk L_v234) := lk_cons ok_v234 tok_v232

noncomputable abbrev S_v198 : Summ := sumE [] false Tryz.prog (lkC L_v234) 400 Tryz.f198 (Tryz.f198.body.getD .skip) []
theorem ok_v198 : SummOk Kn Tryz.prog 198 S_v198 := sumE_ok (tok_cl tok_v234) Tryz.checked.mixed Tryz.func198 (by kernel_rfl) (by rfl) 400 []   -- barbican/scalar.Swap
noncomputable def L_v198 : List (Nat × Summ) := (198, S_v198) :: L_v234
theorem tok_v198 : TOk Kn Tryz.prog (lk L_v198) := lk_cons ok_v198 tok_v234

noncomputable abbrev S_v172 : Summ := sumE [] false Tryz.prog (lkC L_v198) 400 Tryz.f172 (Tryz.f172.body.getD .skip) []
theorem ok_v172 : SummOk Kn Tryz.prog 172 S_v172 := sumE_ok (tok_cl tok_v198) Tryz.checked.mixed Tryz.func172 (by kernel_rfl) (by rfl) 400 []   -- barbican/verify.turned
noncomputable def L_v172 : List (Nat × Summ) := (172, S_v172) :: L_v198
theorem tok_v172 : TOk Kn Tryz.prog (lk L_v172) := lk_cons ok_v172 tok_v198

noncomputable abbrev S_v199 : Summ := sumE [] false Tryz.prog (lkC L_v172) 400 Tryz.f199 (Tryz.f199.body.getD .skip) []
theorem ok_v199 : SummOk Kn Tryz.prog 199 S_v199 := sumE_ok (tok_cl tok_v172) Tryz.checked.mixed Tryz.func199 (by kernel_rfl) (by rfl) 400 []   -- barbican/alu.Sign
noncomputable def L_v199 : List (Nat × Summ) := (199, S_v199) :: L_v172
theorem tok_v199 : TOk Kn Tryz.prog (lk L_v199) := lk_cons ok_v199 tok_v172

noncomputable abbrev S_v173 : Summ := sumE [] false Tryz.prog (lkC L_v199) 400 Tryz.f173 (Tryz.f173.body.getD .skip) []
theorem ok_v173 : SummOk Kn Tryz.prog 173 S_v173 := sumE_ok (tok_cl tok_v199) Tryz.checked.mixed Tryz.func173 (by kernel_rfl) (by rfl) 400 []   -- barbican/verify.operand
noncomputable def L_v173 : List (Nat × Summ) := (173, S_v173) :: L_v199
theorem tok_v173 : TOk Kn Tryz.prog (lk L_v173) := lk_cons ok_v173 tok_v199

noncomputable abbrev S_v141 : Summ := sumE [] false Tryz.prog (lkC L_v173) 400 Tryz.f141 (Tryz.f141.body.getD .skip) []
theorem ok_v141 : SummOk Kn Tryz.prog 141 S_v141 := sumE_ok (tok_cl tok_v173) Tryz.checked.mixed Tryz.func141 (by kernel_rfl) (by rfl) 400 []   -- barbican/verify.arith
noncomputable def L_v141 : List (Nat × Summ) := (141, S_v141) :: L_v173
theorem tok_v141 : TOk Kn Tryz.prog (lk L_v141) := lk_cons ok_v141 tok_v173

noncomputable abbrev S_v251 : Summ := sumE [] false Tryz.prog (lkC L_v141) 400 Tryz.f251 (Tryz.f251.body.getD .skip) []
theorem ok_v251 : SummOk Kn Tryz.prog 251 S_v251 := sumE_ok (tok_cl tok_v141) Tryz.checked.mixed Tryz.func251 (by kernel_rfl) (by rfl) 400 []   -- slices.Equal[[]int,int]
noncomputable def L_v251 : List (Nat × Summ) := (251, S_v251) :: L_v141
theorem tok_v251 : TOk Kn Tryz.prog (lk L_v251) := lk_cons ok_v251 tok_v141

noncomputable abbrev S_v306 : Summ := sumE [] false Tryz.prog (lkC L_v251) 400 Tryz.f306 (Tryz.f306.body.getD .skip) []
theorem ok_v306 : SummOk Kn Tryz.prog 306 S_v306 := sumE_ok (tok_cl tok_v251) Tryz.checked.mixed Tryz.func306 (by kernel_rfl) (by rfl) 400 []   -- barbican/tnum.Has
noncomputable def L_v306 : List (Nat × Summ) := (306, S_v306) :: L_v251
theorem tok_v306 : TOk Kn Tryz.prog (lk L_v306) := lk_cons ok_v306 tok_v251

noncomputable abbrev S_v252 : Summ := sumE [] false Tryz.prog (lkC L_v306) 400 Tryz.f252 (Tryz.f252.body.getD .skip) []
theorem ok_v252 : SummOk Kn Tryz.prog 252 S_v252 := sumE_ok (tok_cl tok_v306) Tryz.checked.mixed Tryz.func252 (by kernel_rfl) (by rfl) 400 []   -- barbican/scalar.Has
noncomputable def L_v252 : List (Nat × Summ) := (252, S_v252) :: L_v306
theorem tok_v252 : TOk Kn Tryz.prog (lk L_v252) := lk_cons ok_v252 tok_v306

noncomputable abbrev S_v208 : Summ := sumE [] false Tryz.prog (lkC L_v252) 400 Tryz.f208 (Tryz.f208.body.getD .skip) []
theorem ok_v208 : SummOk Kn Tryz.prog 208 S_v208 := sumE_ok (tok_cl tok_v252) Tryz.checked.mixed Tryz.func208 (by kernel_rfl) (by rfl) 400 []   -- (*barbican/verify.state).turned
noncomputable def L_v208 : List (Nat × Summ) := (208, S_v208) :: L_v252
theorem tok_v208 : TOk Kn Tryz.prog (lk L_v208) := lk_cons ok_v208 tok_v252

noncomputable abbrev S_v176 : Summ := sumE [] false Tryz.prog (lkC L_v208) 400 Tryz.f176 (Tryz.f176.body.getD .skip) []
theorem ok_v176 : SummOk Kn Tryz.prog 176 S_v176 := sumE_ok (tok_cl tok_v208) Tryz.checked.mixed Tryz.func176 (by kernel_rfl) (by rfl) 400 []   -- (*barbican/verify.state).exits
noncomputable def L_v176 : List (Nat × Summ) := (176, S_v176) :: L_v208
theorem tok_v176 : TOk Kn Tryz.prog (lk L_v176) := lk_cons ok_v176 tok_v208

noncomputable abbrev S_v307 : Summ := sumE [] false Tryz.prog (lkC L_v176) 400 Tryz.f307 (Tryz.f307.body.getD .skip) []
theorem ok_v307 : SummOk Kn Tryz.prog 307 S_v307 := sumE_ok (tok_cl tok_v176) Tryz.checked.mixed Tryz.func307 (by kernel_rfl) (by rfl) 400 []   -- barbican/proto.of
noncomputable def L_v307 : List (Nat × Summ) := (307, S_v307) :: L_v176
theorem tok_v307 : TOk Kn Tryz.prog (lk L_v307) := lk_cons ok_v307 tok_v176

noncomputable abbrev S_v308 : Summ := sumE [] false Tryz.prog (lkC L_v307) 400 Tryz.f308 (Tryz.f308.body.getD .skip) []
theorem ok_v308 : SummOk Kn Tryz.prog 308 S_v308 := sumE_ok (tok_cl tok_v307) Tryz.checked.mixed Tryz.func308 (by kernel_rfl) (by rfl) 400 []   -- barbican/proto.acquires
noncomputable def L_v308 : List (Nat × Summ) := (308, S_v308) :: L_v307
theorem tok_v308 : TOk Kn Tryz.prog (lk L_v308) := lk_cons ok_v308 tok_v307

noncomputable abbrev S_v309 : Summ := sumE [] false Tryz.prog (lkC L_v308) 400 Tryz.f309 (Tryz.f309.body.getD .skip) []
theorem ok_v309 : SummOk Kn Tryz.prog 309 S_v309 := sumE_ok (tok_cl tok_v308) Tryz.checked.mixed Tryz.func309 (by kernel_rfl) (by rfl) 400 []   -- barbican/proto.releases
noncomputable def L_v309 : List (Nat × Summ) := (309, S_v309) :: L_v308
theorem tok_v309 : TOk Kn Tryz.prog (lk L_v309) := lk_cons ok_v309 tok_v308

noncomputable abbrev S_v253 : Summ := sumE [] false Tryz.prog (lkC L_v309) 400 Tryz.f253 (Tryz.f253.body.getD .skip) []
theorem ok_v253 : SummOk Kn Tryz.prog 253 S_v253 := sumE_ok (tok_cl tok_v309) Tryz.checked.mixed Tryz.func253 (by kernel_rfl) (by rfl) 400 []   -- barbican/proto.table
noncomputable def L_v253 : List (Nat × Summ) := (253, S_v253) :: L_v309
theorem tok_v253 : TOk Kn Tryz.prog (lk L_v253) := lk_cons ok_v253 tok_v309

noncomputable abbrev S_v209 : Summ := sumE [] false Tryz.prog (lkC L_v253) 400 Tryz.f209 (Tryz.f209.body.getD .skip) []
theorem ok_v209 : SummOk Kn Tryz.prog 209 S_v209 := sumE_ok (tok_cl tok_v253) Tryz.checked.mixed Tryz.func209 (by kernel_rfl) (by rfl) 400 []   -- barbican/proto.Of
noncomputable def L_v209 : List (Nat × Summ) := (209, S_v209) :: L_v253
theorem tok_v209 : TOk Kn Tryz.prog (lk L_v209) := lk_cons ok_v209 tok_v253

noncomputable abbrev S_v254 : Summ := sumE [] false Tryz.prog (lkC L_v209) 400 Tryz.f254 (Tryz.f254.body.getD .skip) []
theorem ok_v254 : SummOk Kn Tryz.prog 254 S_v254 := sumE_ok (tok_cl tok_v209) Tryz.checked.mixed Tryz.func254 (by kernel_rfl) (by rfl) 400 []   -- (*barbican/verify.helped).area
noncomputable def L_v254 : List (Nat × Summ) := (254, S_v254) :: L_v209
theorem tok_v254 : TOk Kn Tryz.prog (lk L_v254) := lk_cons ok_v254 tok_v209

noncomputable abbrev S_v255 : Summ := sumE [] false Tryz.prog (lkC L_v254) 400 Tryz.f255 (Tryz.f255.body.getD .skip) []
theorem ok_v255 : SummOk Kn Tryz.prog 255 S_v255 := sumE_ok (tok_cl tok_v254) Tryz.checked.mixed Tryz.func255 (by kernel_rfl) (by rfl) 400 []   -- (*barbican/verify.helped).record
noncomputable def L_v255 : List (Nat × Summ) := (255, S_v255) :: L_v254
theorem tok_v255 : TOk Kn Tryz.prog (lk L_v255) := lk_cons ok_v255 tok_v254

noncomputable abbrev S_v210 : Summ := sumE [] false Tryz.prog (lkC L_v255) 400 Tryz.f210 (Tryz.f210.body.getD .skip) []
theorem ok_v210 : SummOk Kn Tryz.prog 210 S_v210 := sumE_ok (tok_cl tok_v255) Tryz.checked.mixed Tryz.func210 (by kernel_rfl) (by rfl) 400 []   -- (*barbican/verify.helped).looks
noncomputable def L_v210 : List (Nat × Summ) := (210, S_v210) :: L_v255
theorem tok_v210 : TOk Kn Tryz.prog (lk L_v210) := lk_cons ok_v210 tok_v255

noncomputable abbrev S_v256 : Summ := sumE [] false Tryz.prog (lkC L_v210) 400 Tryz.f256 (Tryz.f256.body.getD .skip) []
theorem ok_v256 : SummOk Kn Tryz.prog 256 S_v256 := sumE_ok (tok_cl tok_v210) Tryz.checked.mixed Tryz.func256 (by kernel_rfl) (by rfl) 400 []   -- (*barbican/verify.helped).full
noncomputable def L_v256 : List (Nat × Summ) := (256, S_v256) :: L_v210
theorem tok_v256 : TOk Kn Tryz.prog (lk L_v256) := lk_cons ok_v256 tok_v210

noncomputable abbrev S_v310 : Summ := sumE [] false Tryz.prog (lkC L_v256) 400 Tryz.f310 (Tryz.f310.body.getD .skip) []
theorem ok_v310 : SummOk Kn Tryz.prog 310 S_v310 := sumE_ok (tok_cl tok_v256) Tryz.checked.mixed Tryz.func310 (by kernel_rfl) (by rfl) 400 []   -- barbican/verify.half
noncomputable def L_v310 : List (Nat × Summ) := (310, S_v310) :: L_v256
theorem tok_v310 : TOk Kn Tryz.prog (lk L_v310) := lk_cons ok_v310 tok_v256

noncomputable abbrev S_v261 : Summ := sumE [] false Tryz.prog (lkC L_v310) 400 Tryz.f261 (Tryz.f261.body.getD .skip) []
theorem ok_v261 : SummOk Kn Tryz.prog 261 S_v261 := sumE_ok (tok_cl tok_v310) Tryz.checked.mixed Tryz.func261 (by kernel_rfl) (by rfl) 400 []   -- (*barbican/verify.helped).iterNew
noncomputable def L_v261 : List (Nat × Summ) := (261, S_v261) :: L_v310
theorem tok_v261 : TOk Kn Tryz.prog (lk L_v261) := lk_cons ok_v261 tok_v310

noncomputable abbrev S_v262 : Summ := sumE [] false Tryz.prog (lkC L_v261) 400 Tryz.f262 (Tryz.f262.body.getD .skip) []
theorem ok_v262 : SummOk Kn Tryz.prog 262 S_v262 := sumE_ok (tok_cl tok_v261) Tryz.checked.mixed Tryz.func262 (by kernel_rfl) (by rfl) 400 []   -- (*barbican/verify.helped).clears
noncomputable def L_v262 : List (Nat × Summ) := (262, S_v262) :: L_v261
theorem tok_v262 : TOk Kn Tryz.prog (lk L_v262) := lk_cons ok_v262 tok_v261

noncomputable abbrev S_v211 : Summ := sumE [] false Tryz.prog (lkC L_v262) 400 Tryz.f211 (Tryz.f211.body.getD .skip) []
theorem ok_v211 : SummOk Kn Tryz.prog 211 S_v211 := sumE_ok (tok_cl tok_v262) Tryz.checked.mixed Tryz.func211 (by kernel_rfl) (by rfl) 400 []   -- (*barbican/verify.helped).ledger
noncomputable def L_v211 : List (Nat × Summ) := (211, S_v211) :: L_v262
theorem tok_v211 : TOk Kn Tryz.prog (lk L_v211) := lk_cons ok_v211 tok_v262

noncomputable abbrev S_v177 : Summ := sumE [] false Tryz.prog (lkC L_v211) 400 Tryz.f177 (Tryz.f177.body.getD .skip) []
theorem ok_v177 : SummOk Kn Tryz.prog 177 S_v177 := sumE_ok (tok_cl tok_v211) Tryz.checked.mixed Tryz.func177 (by kernel_rfl) (by rfl) 400 []   -- (*barbican/verify.check).helps
noncomputable def L_v177 : List (Nat × Summ) := (177, S_v177) :: L_v211
theorem tok_v177 : TOk Kn Tryz.prog (lk L_v177) := lk_cons ok_v177 tok_v211

noncomputable abbrev S_v322 : Summ := sumE [] false Tryz.prog (lkC L_v177) 400 Tryz.f322 (Tryz.f322.body.getD .skip) []
theorem ok_v322 : SummOk Kn Tryz.prog 322 S_v322 := sumE_ok (tok_cl tok_v177) Tryz.checked.mixed Tryz.func322 (by kernel_rfl) (by rfl) 400 []   -- barbican/alu.Cmp$1
noncomputable def L_v322 : List (Nat × Summ) := (322, S_v322) :: L_v177
theorem tok_v322 : TOk Kn Tryz.prog (lk L_v322) := lk_cons ok_v322 tok_v177

noncomputable abbrev S_v312 : Summ := sumE [] false Tryz.prog (lkC L_v322) 400 Tryz.f312 (Tryz.f312.body.getD .skip) []
theorem ok_v312 : SummOk Kn Tryz.prog 312 S_v312 := sumE_ok (tok_cl tok_v322) Tryz.checked.mixed Tryz.func312 (by kernel_rfl) (by rfl) 400 []   -- barbican/alu.Cmp
noncomputable def L_v312 : List (Nat × Summ) := (312, S_v312) :: L_v322
theorem tok_v312 : TOk Kn Tryz.prog (lk L_v312) := lk_cons ok_v312 tok_v322

noncomputable abbrev S_v263 : Summ := sumE [] false Tryz.prog (lkC L_v312) 400 Tryz.f263 (Tryz.f263.body.getD .skip) []
theorem ok_v263 : SummOk Kn Tryz.prog 263 S_v263 := sumE_ok (tok_cl tok_v312) Tryz.checked.mixed Tryz.func263 (by kernel_rfl) (by rfl) 400 []   -- barbican/scalar.compares
noncomputable def L_v263 : List (Nat × Summ) := (263, S_v263) :: L_v312
theorem tok_v263 : TOk Kn Tryz.prog (lk L_v263) := lk_cons ok_v263 tok_v312

noncomputable abbrev S_v265 : Summ := sumE [] false Tryz.prog (lkC L_v263) 400 Tryz.f265 (Tryz.f265.body.getD .skip) []
theorem ok_v265 : SummOk Kn Tryz.prog 265 S_v265 := sumE_ok (tok_cl tok_v263) Tryz.checked.mixed Tryz.func265 (by kernel_rfl) (by rfl) 400 []   -- barbican/scalar.narrow
noncomputable def L_v265 : List (Nat × Summ) := (265, S_v265) :: L_v263
theorem tok_v265 : TOk Kn Tryz.prog (lk L_v265) := lk_cons ok_v265 tok_v263

noncomputable abbrev S_v313 : Summ := sumE [] false Tryz.prog (lkC L_v265) 400 Tryz.f313 (Tryz.f313.body.getD .skip) []
theorem ok_v313 : SummOk Kn Tryz.prog 313 S_v313 := sumE_ok (tok_cl tok_v265) Tryz.checked.mixed Tryz.func313 (by kernel_rfl) (by rfl) 400 []   -- barbican/scalar.Meet
noncomputable def L_v313 : List (Nat × Summ) := (313, S_v313) :: L_v265
theorem tok_v313 : TOk Kn Tryz.prog (lk L_v313) := lk_cons ok_v313 tok_v265

noncomputable abbrev S_v314 : Summ := sumE [] false Tryz.prog (lkC L_v313) 400 Tryz.f314 (Tryz.f314.body.getD .skip) []
theorem ok_v314 : SummOk Kn Tryz.prog 314 S_v314 := sumE_ok (tok_cl tok_v313) Tryz.checked.mixed Tryz.func314 (by kernel_rfl) (by rfl) 400 []   -- barbican/scalar.turned
noncomputable def L_v314 : List (Nat × Summ) := (314, S_v314) :: L_v313
theorem tok_v314 : TOk Kn Tryz.prog (lk L_v314) := lk_cons ok_v314 tok_v313

noncomputable abbrev S_v315 : Summ := sumE [] false Tryz.prog (lkC L_v314) 400 Tryz.f315 (Tryz.f315.body.getD .skip) []
theorem ok_v315 : SummOk Kn Tryz.prog 315 S_v315 := sumE_ok (tok_cl tok_v314) Tryz.checked.mixed Tryz.func315 (by kernel_rfl) (by rfl) 400 []   -- barbican/scalar.below
noncomputable def L_v315 : List (Nat × Summ) := (315, S_v315) :: L_v314
theorem tok_v315 : TOk Kn Tryz.prog (lk L_v315) := lk_cons ok_v315 tok_v314

noncomputable abbrev S_v269 : Summ := sumE [] false Tryz.prog (lkC L_v315) 400 Tryz.f269 (Tryz.f269.body.getD .skip) []
theorem ok_v269 : SummOk Kn Tryz.prog 269 S_v269 := sumE_ok (tok_cl tok_v315) Tryz.checked.mixed Tryz.func269 (by kernel_rfl) (by rfl) 400 []   -- barbican/scalar.contrary
noncomputable def L_v269 : List (Nat × Summ) := (269, S_v269) :: L_v315
theorem tok_v269 : TOk Kn Tryz.prog (lk L_v269) := lk_cons ok_v269 tok_v315

noncomputable abbrev S_v264 : Summ := sumE [] false Tryz.prog (lkC L_v269) 400 Tryz.f264 (Tryz.f264.body.getD .skip) []
theorem ok_v264 : SummOk Kn Tryz.prog 264 S_v264 := sumE_ok (tok_cl tok_v269) Tryz.checked.mixed Tryz.func264 (by kernel_rfl) (by rfl) 400 []   -- barbican/scalar.Decided
noncomputable def L_v264 : List (Nat × Summ) := (264, S_v264) :: L_v269
theorem tok_v264 : TOk Kn Tryz.prog (lk L_v264) := lk_cons ok_v264 tok_v269

noncomputable abbrev S_v266 : Summ := sumE [] false Tryz.prog (lkC L_v264) 400 Tryz.f266 (Tryz.f266.body.getD .skip) []
theorem ok_v266 : SummOk Kn Tryz.prog 266 S_v266 := sumE_ok (tok_cl tok_v264) Tryz.checked.mixed Tryz.func266 (by kernel_rfl) (by rfl) 400 []   -- (*barbican/scalar.pair).common
noncomputable def L_v266 : List (Nat × Summ) := (266, S_v266) :: L_v264
theorem tok_v266 : TOk Kn Tryz.prog (lk L_v266) := lk_cons ok_v266 tok_v264

noncomputable abbrev S_v267 : Summ := sumE [] false Tryz.prog (lkC L_v266) 400 Tryz.f267 (Tryz.f267.body.getD .skip) []
theorem ok_v267 : SummOk Kn Tryz.prog 267 S_v267 := sumE_ok (tok_cl tok_v266) Tryz.checked.mixed Tryz.func267 (by kernel_rfl) (by rfl) 400 []   -- (*barbican/scalar.pair).apart
noncomputable def L_v267 : List (Nat × Summ) := (267, S_v267) :: L_v266
theorem tok_v267 : TOk Kn Tryz.prog (lk L_v267) := lk_cons ok_v267 tok_v266

noncomputable abbrev S_v316 : Summ := sumE [] false Tryz.prog (lkC L_v267) 400 Tryz.f316 (Tryz.f316.body.getD .skip) []
theorem ok_v316 : SummOk Kn Tryz.prog 316 S_v316 := sumE_ok (tok_cl tok_v267) Tryz.checked.mixed Tryz.func316 (by kernel_rfl) (by rfl) 400 []   -- (*barbican/scalar.pair).same
noncomputable def L_v316 : List (Nat × Summ) := (316, S_v316) :: L_v267
theorem tok_v316 : TOk Kn Tryz.prog (lk L_v316) := lk_cons ok_v316 tok_v267

noncomputable abbrev S_v317 : Summ := sumE [] false Tryz.prog (lkC L_v316) 400 Tryz.f317 (Tryz.f317.body.getD .skip) []
theorem ok_v317 : SummOk Kn Tryz.prog 317 S_v317 := sumE_ok (tok_cl tok_v316) Tryz.checked.mixed Tryz.func317 (by kernel_rfl) (by rfl) 400 []   -- (*barbican/scalar.pair).unlike
noncomputable def L_v317 : List (Nat × Summ) := (317, S_v317) :: L_v316
theorem tok_v317 : TOk Kn Tryz.prog (lk L_v317) := lk_cons ok_v317 tok_v316

noncomputable abbrev S_v318 : Summ := sumE [] false Tryz.prog (lkC L_v317) 400 Tryz.f318 (Tryz.f318.body.getD .skip) []
theorem ok_v318 : SummOk Kn Tryz.prog 318 S_v318 := sumE_ok (tok_cl tok_v317) Tryz.checked.mixed Tryz.func318 (by kernel_rfl) (by rfl) 400 []   -- (*barbican/scalar.pair).less
noncomputable def L_v318 : List (Nat × Summ) := (318, S_v318) :: L_v317
theorem tok_v318 : TOk Kn Tryz.prog (lk L_v318) := lk_cons ok_v318 tok_v317

noncomputable abbrev S_v319 : Summ := sumE [] false Tryz.prog (lkC L_v318) 400 Tryz.f319 (Tryz.f319.body.getD .skip) []
theorem ok_v319 : SummOk Kn Tryz.prog 319 S_v319 := sumE_ok (tok_cl tok_v318) Tryz.checked.mixed Tryz.func319 (by kernel_rfl) (by rfl) 400 []   -- (*barbican/scalar.pair).lessSigned
noncomputable def L_v319 : List (Nat × Summ) := (319, S_v319) :: L_v318
theorem tok_v319 : TOk Kn Tryz.prog (lk L_v319) := lk_cons ok_v319 tok_v318

noncomputable abbrev S_v268 : Summ := sumE [] false Tryz.prog (lkC L_v319) 400 Tryz.f268 (Tryz.f268.body.getD .skip) []
theorem ok_v268 : SummOk Kn Tryz.prog 268 S_v268 := sumE_ok (tok_cl tok_v319) Tryz.checked.mixed Tryz.func268 (by kernel_rfl) (by rfl) 400 []   -- (*barbican/scalar.pair).holds
noncomputable def L_v268 : List (Nat × Summ) := (268, S_v268) :: L_v319
theorem tok_v268 : TOk Kn Tryz.prog (lk L_v268) := lk_cons ok_v268 tok_v319

noncomputable abbrev S_v212 : Summ := sumE [] false Tryz.prog (lkC L_v268) 400 Tryz.f212 (Tryz.f212.body.getD .skip) []
theorem ok_v212 : SummOk Kn Tryz.prog 212 S_v212 := sumE_ok (tok_cl tok_v268) Tryz.checked.mixed Tryz.func212 (by kernel_rfl) (by rfl) 400 []   -- barbican/scalar.Branch
noncomputable def L_v212 : List (Nat × Summ) := (212, S_v212) :: L_v268
theorem tok_v212 : TOk Kn Tryz.prog (lk L_v212) := lk_cons ok_v212 tok_v268

noncomputable abbrev S_v178 : Summ := sumE [] false Tryz.prog (lkC L_v212) 400 Tryz.f178 (Tryz.f178.body.getD .skip) []
theorem ok_v178 : SummOk Kn Tryz.prog 178 S_v178 := sumE_ok (tok_cl tok_v212) Tryz.checked.mixed Tryz.func178 (by kernel_rfl) (by rfl) 400 []   -- (*barbican/verify.check).branches
noncomputable def L_v178 : List (Nat × Summ) := (178, S_v178) :: L_v212
theorem tok_v178 : TOk Kn Tryz.prog (lk L_v178) := lk_cons ok_v178 tok_v212

noncomputable abbrev S_v142 : Summ := sumE [] false Tryz.prog (lkC L_v178) 400 Tryz.f142 (Tryz.f142.body.getD .skip) []
theorem ok_v142 : SummOk Kn Tryz.prog 142 S_v142 := sumE_ok (tok_cl tok_v178) Tryz.checked.mixed Tryz.func142 (by kernel_rfl) (by rfl) 400 []   -- (*barbican/verify.check).jump
noncomputable def L_v142 : List (Nat × Summ) := (142, S_v142) :: L_v178
theorem tok_v142 : TOk Kn Tryz.prog (lk L_v142) := lk_cons ok_v142 tok_v178

noncomputable abbrev S_v96 : Summ := sumE [] false Tryz.prog (lkC L_v142) 400 Tryz.f96 (Tryz.f96.body.getD .skip) []
theorem ok_v96 : SummOk Kn Tryz.prog 96 S_v96 := sumE_ok (tok_cl tok_v142) Tryz.checked.mixed Tryz.func96 (by kernel_rfl) (by rfl) 400 []   -- (*barbican/verify.check).step
noncomputable def L_v96 : List (Nat × Summ) := (96, S_v96) :: L_v142
theorem tok_v96 : TOk Kn Tryz.prog (lk L_v96) := lk_cons ok_v96 tok_v142

noncomputable abbrev S_v179 : Summ := sumE [] false Tryz.prog (lkC L_v96) 400 Tryz.f179 (Tryz.f179.body.getD .skip) []
theorem ok_v179 : SummOk Kn Tryz.prog 179 S_v179 := sumE_ok (tok_cl tok_v96) Tryz.checked.mixed Tryz.func179 (by kernel_rfl) (by rfl) 400 []   -- slices.Equal[[]barbican/verify.area,barbican/verify.area]
noncomputable def L_v179 : List (Nat × Summ) := (179, S_v179) :: L_v96
theorem tok_v179 : TOk Kn Tryz.prog (lk L_v179) := lk_cons ok_v179 tok_v96

noncomputable abbrev S_v180 : Summ := sumE [] false Tryz.prog (lkC L_v179) 400 Tryz.f180 (Tryz.f180.body.getD .skip) []
theorem ok_v180 : SummOk Kn Tryz.prog 180 S_v180 := sumE_ok (tok_cl tok_v179) Tryz.checked.mixed Tryz.func180 (by kernel_rfl) (by rfl) 400 []   -- maps.Equal[map[int]int,map[int]int,int,int]
noncomputable def L_v180 : List (Nat × Summ) := (180, S_v180) :: L_v179
theorem tok_v180 : TOk Kn Tryz.prog (lk L_v180) := lk_cons ok_v180 tok_v179

noncomputable abbrev S_v181 : Summ := sumE [] false Tryz.prog (lkC L_v180) 400 Tryz.f181 (Tryz.f181.body.getD .skip) []
theorem ok_v181 : SummOk Kn Tryz.prog 181 S_v181 := sumE_ok (tok_cl tok_v180) Tryz.checked.mixed Tryz.func181 (by kernel_rfl) (by rfl) 400 []   -- maps.Equal[map[int]barbican/verify.tag,map[int]barbican/verify.tag,int,barbican/verify.tag]
noncomputable def L_v181 : List (Nat × Summ) := (181, S_v181) :: L_v180
theorem tok_v181 : TOk Kn Tryz.prog (lk L_v181) := lk_cons ok_v181 tok_v180

noncomputable abbrev S_v143 : Summ := sumE [] false Tryz.prog (lkC L_v181) 400 Tryz.f143 (Tryz.f143.body.getD .skip) []
theorem ok_v143 : SummOk Kn Tryz.prog 143 S_v143 := sumE_ok (tok_cl tok_v181) Tryz.checked.mixed Tryz.func143 (by kernel_rfl) (by rfl) 400 []   -- (*barbican/verify.state).alike
noncomputable def L_v143 : List (Nat × Summ) := (143, S_v143) :: L_v181
theorem tok_v143 : TOk Kn Tryz.prog (lk L_v143) := lk_cons ok_v143 tok_v181

noncomputable abbrev S_v97 : Summ := sumE [] false Tryz.prog (lkC L_v143) 400 Tryz.f97 (Tryz.f97.body.getD .skip) []
theorem ok_v97 : SummOk Kn Tryz.prog 97 S_v97 := sumE_ok (tok_cl tok_v143) Tryz.checked.mixed Tryz.func97 (by kernel_rfl) (by rfl) 400 []   -- (*barbican/verify.state).back
noncomputable def L_v97 : List (Nat × Summ) := (97, S_v97) :: L_v143
theorem tok_v97 : TOk Kn Tryz.prog (lk L_v97) := lk_cons ok_v97 tok_v143

noncomputable abbrev S_v35 : Summ := sumE [] false Tryz.prog (lkC L_v97) 400 Tryz.f35 (Tryz.f35.body.getD .skip) []
theorem ok_v35 : SummOk Kn Tryz.prog 35 S_v35 := sumE_ok (tok_cl tok_v97) Tryz.checked.mixed Tryz.func35 (by kernel_rfl) (by rfl) 400 []   -- (*barbican/verify.check).goes
noncomputable def L_v35 : List (Nat × Summ) := (35, S_v35) :: L_v97
theorem tok_v35 : TOk Kn Tryz.prog (lk L_v35) := lk_cons ok_v35 tok_v97

noncomputable abbrev S_v36 : Summ := sumE [] false Tryz.prog (lkC L_v35) 400 Tryz.f36 (Tryz.f36.body.getD .skip) []
theorem ok_v36 : SummOk Kn Tryz.prog 36 S_v36 := sumE_ok (tok_cl tok_v35) Tryz.checked.mixed Tryz.func36 (by kernel_rfl) (by rfl) 400 []   -- (*barbican/verify.check).fired
noncomputable def L_v36 : List (Nat × Summ) := (36, S_v36) :: L_v35
theorem tok_v36 : TOk Kn Tryz.prog (lk L_v36) := lk_cons ok_v36 tok_v35

noncomputable abbrev S_v14 : Summ := catchS Tryz.prog (lkC L_v36) 400 Tryz.f14 Tryz.f30 (Tryz.f14.body.getD .skip) (Tryz.f30.body.getD .skip)
theorem ok_v14 : SummOk Kn Tryz.prog 14 S_v14 := catch_ok (tok_cl tok_v36) Tryz.checked.mixed Tryz.func30 (by rfl) rfl (by decide) (by kernel_rfl) rfl 400 Tryz.func14 (by kernel_rfl) (by rfl) rfl (by decide)   -- (*barbican/verify.check).runs
noncomputable def L_v14 : List (Nat × Summ) := (14, S_v14) :: L_v36
theorem tok_v14 : TOk Kn Tryz.prog (lk L_v14) := lk_cons ok_v14 tok_v36

noncomputable abbrev S_v10 : Summ := sumE [] false Tryz.prog (lkC L_v14) 400 Tryz.f10 (Tryz.f10.body.getD .skip) []
theorem ok_v10 : SummOk Kn Tryz.prog 10 S_v10 := sumE_ok (tok_cl tok_v14) Tryz.checked.mixed Tryz.func10 (by kernel_rfl) (by rfl) 400 []   -- barbican/verify.checked
noncomputable def L_v10 : List (Nat × Summ) := (10, S_v10) :: L_v14
theorem tok_v10 : TOk Kn Tryz.prog (lk L_v10) := lk_cons ok_v10 tok_v14

noncomputable abbrev S_v8 : Summ := sumE [] false Tryz.prog (lkC L_v10) 400 Tryz.f8 (Tryz.f8.body.getD .skip) []
theorem ok_v8 : SummOk Kn Tryz.prog 8 S_v8 := sumE_ok (tok_cl tok_v10) Tryz.checked.mixed Tryz.func8 (by kernel_rfl) (by rfl) 400 []   -- barbican/verify.Check
noncomputable def L_v8 : List (Nat × Summ) := (8, S_v8) :: L_v10
theorem tok_v8 : TOk Kn Tryz.prog (lk L_v8) := lk_cons ok_v8 tok_v10

noncomputable abbrev S_v4 : Summ := sumE [] false Tryz.prog (lkC L_v8) 400 Tryz.f4 (Tryz.f4.body.getD .skip) []
theorem ok_v4 : SummOk Kn Tryz.prog 4 S_v4 := sumE_ok (tok_cl tok_v8) Tryz.checked.mixed Tryz.func4 (by kernel_rfl) (by rfl) 400 []   -- barbican/barbicanlaw17.known
noncomputable def L_v4 : List (Nat × Summ) := (4, S_v4) :: L_v8
theorem tok_v4 : TOk Kn Tryz.prog (lk L_v4) := lk_cons ok_v4 tok_v8

noncomputable abbrev S_v7 : Summ := sumE [] false Tryz.prog (lkC L_v4) 400 Tryz.f7 (Tryz.f7.body.getD .skip) []
theorem ok_v7 : SummOk Kn Tryz.prog 7 S_v7 := sumE_ok (tok_cl tok_v4) Tryz.checked.mixed Tryz.func7 (by kernel_rfl) (by rfl) 400 []   -- barbican/barbicanref17.Ring
noncomputable def L_v7 : List (Nat × Summ) := (7, S_v7) :: L_v4
theorem tok_v7 : TOk Kn Tryz.prog (lk L_v7) := lk_cons ok_v7 tok_v4

noncomputable abbrev S_v5 : Summ := sumE [] false Tryz.prog (lkC L_v7) 400 Tryz.f5 (Tryz.f5.body.getD .skip) []
theorem ok_v5 : SummOk Kn Tryz.prog 5 S_v5 := sumE_ok (tok_cl tok_v7) Tryz.checked.mixed Tryz.func5 (by kernel_rfl) (by rfl) 400 []   -- barbican/barbicanlaw17.refused
noncomputable def L_v5 : List (Nat × Summ) := (5, S_v5) :: L_v7
theorem tok_v5 : TOk Kn Tryz.prog (lk L_v5) := lk_cons ok_v5 tok_v7

noncomputable abbrev S_v3 : Summ := sumE [] false Tryz.prog (lkC L_v5) 400 Tryz.f3 (Tryz.f3.body.getD .skip) []
theorem ok_v3 : SummOk Kn Tryz.prog 3 S_v3 := sumE_ok (tok_cl tok_v5) Tryz.checked.mixed Tryz.func3 (by kernel_rfl) (by rfl) 400 []   -- barbican/barbicanlaw17.VerifyTrapping
noncomputable def L_v3 : List (Nat × Summ) := (3, S_v3) :: L_v5
theorem tok_v3 : TOk Kn Tryz.prog (lk L_v3) := lk_cons ok_v3 tok_v5

end Go.Proofs.YthejoampfliojaaGreatDoor
