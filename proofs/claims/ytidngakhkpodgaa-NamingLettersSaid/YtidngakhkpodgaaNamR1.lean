import Derived.Test.YtidngakhkpodgaaNamQ7
set_option linter.unusedVariables false
set_option linter.unusedSimpArgs false
set_option linter.unnecessarySimpa false
namespace Go.Proofs.Ytidngakhkpodgaa
open Go Go.AM
set_option linter.unusedVariables false
set_option linter.unusedSimpArgs false

def zeroD : List UInt8 := List.replicate 32 0
def oneD : List UInt8 := 248 :: List.replicate 31 0
theorem z32 : [Value.int .u8 0, .int .u8 0, .int .u8 0, .int .u8 0, .int .u8 0, .int .u8 0, .int .u8 0, .int .u8 0, .int .u8 0, .int .u8 0, .int .u8 0, .int .u8 0, .int .u8 0, .int .u8 0, .int .u8 0, .int .u8 0, .int .u8 0, .int .u8 0, .int .u8 0, .int .u8 0, .int .u8 0, .int .u8 0, .int .u8 0, .int .u8 0, .int .u8 0, .int .u8 0, .int .u8 0, .int .u8 0, .int .u8 0, .int .u8 0, .int .u8 0, .int .u8 0] = zeroD.map byteV := by rfl
def gcc : List UInt8 := [103, 99, 99, 45, 49, 46, 50]
def eee : List UInt8 := List.replicate 32 101 ++ [45, 97]

theorem f1 : lettersOf zeroD = List.replicate 32 48 := by decide +kernel
theorem f2 : lettersOf oneD = 122 :: List.replicate 31 48 := by decide +kernel
theorem f3 : nameR zeroD gcc = (List.replicate 32 48 ++ [45] ++ gcc, 0) := by decide +kernel
theorem f4 : parseR (List.replicate 32 48 ++ [45] ++ gcc) = (List.replicate 32 48, gcc, 0) := by decide +kernel
theorem f5 : parseR eee = ([], [], 90) := by decide +kernel
theorem f6 : rightB [46, 97] = false ∧ rightB [97, 32, 98] = false := by decide +kernel
theorem f7 : fitsR (List.replicate 32 48 ++ [45] ++ gcc) zeroD = true := by decide +kernel
end Go.Proofs.Ytidngakhkpodgaa
