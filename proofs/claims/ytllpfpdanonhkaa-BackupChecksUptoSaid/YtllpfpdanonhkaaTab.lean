/- Facts off the program's tables: of each type its size, its zero, its fields; of each function that it has a body. No condition. -/
import Derived.Test.YtllpfpdanonhkaaChecked
import Derived.Test.YtllpfpdanonhkaaSxDefer
import Derived.KernelRfl
namespace Go.Proofs.Ytllpfpdanonhkaa.Tb
open Go.Sx
noncomputable abbrev P : Program := Try.prog

theorem mixed : P.follows .mixedOrders = true := by kernel_rfl
theorem A1 : aggB P 1 = some false := by kernel_rfl
theorem S1 : szB P 1 = some 1 := by kernel_rfl
theorem Z1 : zeroL P 1 = some [.nilFunc] := by kernel_rfl
theorem C1 : concB P 1 = true := by kernel_rfl
theorem A2 : aggB P 2 = some false := by kernel_rfl
theorem S2 : szB P 2 = some 1 := by kernel_rfl
theorem Z2 : zeroL P 2 = some [.int .i64 0] := by kernel_rfl
theorem C2 : concB P 2 = true := by kernel_rfl
theorem I2 : P.underlying 2 = some (.int .i64) := by kernel_rfl
theorem A3 : aggB P 3 = some false := by kernel_rfl
theorem S3 : szB P 3 = some 1 := by kernel_rfl
theorem Z3 : zeroL P 3 = some [.int .i64 0] := by kernel_rfl
theorem C3 : concB P 3 = true := by kernel_rfl
theorem I3 : P.underlying 3 = some (.int .i64) := by kernel_rfl
theorem A4 : aggB P 4 = some false := by kernel_rfl
theorem S4 : szB P 4 = some 1 := by kernel_rfl
theorem Z4 : zeroL P 4 = some [.bool false] := by kernel_rfl
theorem C4 : concB P 4 = true := by kernel_rfl
theorem I4 : P.underlying 4 = some .bool := by kernel_rfl
theorem A5 : aggB P 5 = some false := by kernel_rfl
theorem S5 : szB P 5 = some 1 := by kernel_rfl
theorem Z5 : zeroL P 5 = some [.int .u8 0] := by kernel_rfl
theorem C5 : concB P 5 = true := by kernel_rfl
theorem I5 : P.underlying 5 = some (.int .u8) := by kernel_rfl
theorem A6 : aggB P 6 = some false := by kernel_rfl
theorem S6 : szB P 6 = some 1 := by kernel_rfl
theorem Z6 : zeroL P 6 = some [.int .u8 0] := by kernel_rfl
theorem C6 : concB P 6 = true := by kernel_rfl
theorem I6 : P.underlying 6 = some (.int .u8) := by kernel_rfl
theorem A7 : aggB P 7 = some true := by kernel_rfl
theorem S7 : szB P 7 = some 4 := by kernel_rfl
theorem Z7 : zeroL P 7 = some [.int .i64 0, .int .i64 0, .bool false, .int .u8 0] := by kernel_rfl
theorem F7_0 : fldB P 7 0 = some 0 := by kernel_rfl
theorem F7_1 : fldB P 7 1 = some 1 := by kernel_rfl
theorem F7_2 : fldB P 7 2 = some 2 := by kernel_rfl
theorem F7_3 : fldB P 7 3 = some 3 := by kernel_rfl
theorem B7 : strB P 7 = some ([.int .i64 0, .int .i64 0, .bool false, .int .u8 0], [(0, 1), (1, 1), (2, 1), (3, 1)]) := by kernel_rfl
theorem C7 : concB P 7 = true := by kernel_rfl
theorem A8 : aggB P 8 = some true := by kernel_rfl
theorem S8 : szB P 8 = some 4 := by kernel_rfl
theorem Z8 : zeroL P 8 = some [.int .i64 0, .int .i64 0, .bool false, .int .u8 0] := by kernel_rfl
theorem F8_0 : fldB P 8 0 = some 0 := by kernel_rfl
theorem F8_1 : fldB P 8 1 = some 1 := by kernel_rfl
theorem F8_2 : fldB P 8 2 = some 2 := by kernel_rfl
theorem F8_3 : fldB P 8 3 = some 3 := by kernel_rfl
theorem B8 : strB P 8 = some ([.int .i64 0, .int .i64 0, .bool false, .int .u8 0], [(0, 1), (1, 1), (2, 1), (3, 1)]) := by kernel_rfl
theorem C8 : concB P 8 = true := by kernel_rfl
theorem A9 : aggB P 9 = some false := by kernel_rfl
theorem S9 : szB P 9 = some 1 := by kernel_rfl
theorem Z9 : zeroL P 9 = some [.string ⟨#[]⟩] := by kernel_rfl
theorem C9 : concB P 9 = true := by kernel_rfl
theorem I9 : P.underlying 9 = some .string := by kernel_rfl
theorem A10 : aggB P 10 = some false := by kernel_rfl
theorem S10 : szB P 10 = some 1 := by kernel_rfl
theorem Z10 : zeroL P 10 = some [.string ⟨#[]⟩] := by kernel_rfl
theorem C10 : concB P 10 = true := by kernel_rfl
theorem I10 : P.underlying 10 = some .string := by kernel_rfl
theorem A11 : aggB P 11 = some false := by kernel_rfl
theorem S11 : szB P 11 = some 1 := by kernel_rfl
theorem Z11 : zeroL P 11 = some [.string ⟨#[]⟩] := by kernel_rfl
theorem C11 : concB P 11 = true := by kernel_rfl
theorem I11 : P.underlying 11 = some .string := by kernel_rfl
theorem A12 : aggB P 12 = some false := by kernel_rfl
theorem S12 : szB P 12 = some 1 := by kernel_rfl
theorem Z12 : zeroL P 12 = some [.int .u64 0] := by kernel_rfl
theorem C12 : concB P 12 = true := by kernel_rfl
theorem I12 : P.underlying 12 = some (.int .u64) := by kernel_rfl
theorem A13 : aggB P 13 = some true := by kernel_rfl
theorem S13 : szB P 13 = some 2 := by kernel_rfl
theorem Z13 : zeroL P 13 = some [.string ⟨#[]⟩, .int .u64 0] := by kernel_rfl
theorem F13_0 : fldB P 13 0 = some 0 := by kernel_rfl
theorem F13_1 : fldB P 13 1 = some 1 := by kernel_rfl
theorem B13 : strB P 13 = some ([.string ⟨#[]⟩, .int .u64 0], [(0, 1), (1, 1)]) := by kernel_rfl
theorem C13 : concB P 13 = true := by kernel_rfl
theorem A14 : aggB P 14 = some true := by kernel_rfl
theorem S14 : szB P 14 = some 2 := by kernel_rfl
theorem Z14 : zeroL P 14 = some [.string ⟨#[]⟩, .int .u64 0] := by kernel_rfl
theorem F14_0 : fldB P 14 0 = some 0 := by kernel_rfl
theorem F14_1 : fldB P 14 1 = some 1 := by kernel_rfl
theorem B14 : strB P 14 = some ([.string ⟨#[]⟩, .int .u64 0], [(0, 1), (1, 1)]) := by kernel_rfl
theorem C14 : concB P 14 = true := by kernel_rfl
theorem A15 : aggB P 15 = some false := by kernel_rfl
theorem S15 : szB P 15 = some 1 := by kernel_rfl
theorem Z15 : zeroL P 15 = some [.pointer none] := by kernel_rfl
theorem C15 : concB P 15 = true := by kernel_rfl
theorem I15 : P.underlying 15 = some (.pointer 180) := by kernel_rfl
theorem A16 : aggB P 16 = some false := by kernel_rfl
theorem S16 : szB P 16 = some 1 := by kernel_rfl
theorem Z16 : zeroL P 16 = some [.pointer none] := by kernel_rfl
theorem C16 : concB P 16 = true := by kernel_rfl
theorem I16 : P.underlying 16 = some (.pointer 183) := by kernel_rfl
theorem A17 : aggB P 17 = some false := by kernel_rfl
theorem S17 : szB P 17 = some 1 := by kernel_rfl
theorem Z17 : zeroL P 17 = some [.pointer none] := by kernel_rfl
theorem C17 : concB P 17 = true := by kernel_rfl
theorem I17 : P.underlying 17 = some (.pointer 191) := by kernel_rfl
theorem A18 : aggB P 18 = some true := by kernel_rfl
theorem S18 : szB P 18 = some 1 := by kernel_rfl
theorem Z18 : zeroL P 18 = some [.pointer none] := by kernel_rfl
theorem F18_0 : fldB P 18 0 = some 0 := by kernel_rfl
theorem B18 : strB P 18 = some ([.pointer none], [(0, 1)]) := by kernel_rfl
theorem C18 : concB P 18 = true := by kernel_rfl
theorem A19 : aggB P 19 = some true := by kernel_rfl
theorem S19 : szB P 19 = some 1 := by kernel_rfl
theorem Z19 : zeroL P 19 = some [.pointer none] := by kernel_rfl
theorem F19_0 : fldB P 19 0 = some 0 := by kernel_rfl
theorem B19 : strB P 19 = some ([.pointer none], [(0, 1)]) := by kernel_rfl
theorem C19 : concB P 19 = true := by kernel_rfl
theorem A20 : aggB P 20 = some false := by kernel_rfl
theorem S20 : szB P 20 = some 1 := by kernel_rfl
theorem Z20 : zeroL P 20 = some [.nilIface] := by kernel_rfl
theorem J20 : ifcB P 20 = true := by kernel_rfl
theorem A21 : aggB P 21 = some false := by kernel_rfl
theorem S21 : szB P 21 = some 1 := by kernel_rfl
theorem Z21 : zeroL P 21 = some [.int .i32 0] := by kernel_rfl
theorem C21 : concB P 21 = true := by kernel_rfl
theorem I21 : P.underlying 21 = some (.int .i32) := by kernel_rfl
theorem A22 : aggB P 22 = some false := by kernel_rfl
theorem S22 : szB P 22 = some 1 := by kernel_rfl
theorem Z22 : zeroL P 22 = some [.int .u64 0] := by kernel_rfl
theorem C22 : concB P 22 = true := by kernel_rfl
theorem I22 : P.underlying 22 = some (.int .u64) := by kernel_rfl
theorem A23 : aggB P 23 = some false := by kernel_rfl
theorem S23 : szB P 23 = some 1 := by kernel_rfl
theorem Z23 : zeroL P 23 = some [.slice none 0 0] := by kernel_rfl
theorem L23 : slcB P 23 = some (5, 1) := by kernel_rfl
theorem G23 : elB P 23 = some (5, [.int .u8 0], 1, 1) := by kernel_rfl
theorem C23 : concB P 23 = true := by kernel_rfl
theorem I23 : P.underlying 23 = some (.slice 5) := by kernel_rfl
theorem A24 : aggB P 24 = some false := by kernel_rfl
theorem S24 : szB P 24 = some 1 := by kernel_rfl
theorem Z24 : zeroL P 24 = some [.slice none 0 0] := by kernel_rfl
theorem L24 : slcB P 24 = some (37, 5) := by kernel_rfl
theorem G24 : elB P 24 = some (37, [.int .u64 0, .int .u64 0, .bool false, .bool false, .bool false], 5, 24) := by kernel_rfl
theorem C24 : concB P 24 = true := by kernel_rfl
theorem I24 : P.underlying 24 = some (.slice 37) := by kernel_rfl
theorem A25 : aggB P 25 = some false := by kernel_rfl
theorem S25 : szB P 25 = some 1 := by kernel_rfl
theorem Z25 : zeroL P 25 = some [.nilFunc] := by kernel_rfl
theorem C25 : concB P 25 = true := by kernel_rfl
theorem A26 : aggB P 26 = some false := by kernel_rfl
theorem S26 : szB P 26 = some 1 := by kernel_rfl
theorem Z26 : zeroL P 26 = some [.slice none 0 0] := by kernel_rfl
theorem L26 : slcB P 26 = some (76, 4) := by kernel_rfl
theorem G26 : elB P 26 = some (76, [.int .u64 0, .int .u64 0, .bool false, .slice none 0 0], 4, 48) := by kernel_rfl
theorem C26 : concB P 26 = true := by kernel_rfl
theorem I26 : P.underlying 26 = some (.slice 76) := by kernel_rfl
theorem A27 : aggB P 27 = some true := by kernel_rfl
theorem S27 : szB P 27 = some 4 := by kernel_rfl
theorem Z27 : zeroL P 27 = some [.int .u64 0, .int .u64 0, .int .u64 0, .slice none 0 0] := by kernel_rfl
theorem F27_0 : fldB P 27 0 = some 0 := by kernel_rfl
theorem F27_1 : fldB P 27 1 = some 1 := by kernel_rfl
theorem F27_2 : fldB P 27 2 = some 2 := by kernel_rfl
theorem F27_3 : fldB P 27 3 = some 3 := by kernel_rfl
theorem B27 : strB P 27 = some ([.int .u64 0, .int .u64 0, .int .u64 0, .slice none 0 0], [(0, 1), (1, 1), (2, 1), (3, 1)]) := by kernel_rfl
theorem C27 : concB P 27 = true := by kernel_rfl
theorem A28 : aggB P 28 = some true := by kernel_rfl
theorem S28 : szB P 28 = some 4 := by kernel_rfl
theorem Z28 : zeroL P 28 = some [.int .u64 0, .int .u64 0, .int .u64 0, .slice none 0 0] := by kernel_rfl
theorem F28_0 : fldB P 28 0 = some 0 := by kernel_rfl
theorem F28_1 : fldB P 28 1 = some 1 := by kernel_rfl
theorem F28_2 : fldB P 28 2 = some 2 := by kernel_rfl
theorem F28_3 : fldB P 28 3 = some 3 := by kernel_rfl
theorem B28 : strB P 28 = some ([.int .u64 0, .int .u64 0, .int .u64 0, .slice none 0 0], [(0, 1), (1, 1), (2, 1), (3, 1)]) := by kernel_rfl
theorem C28 : concB P 28 = true := by kernel_rfl
theorem A29 : aggB P 29 = some false := by kernel_rfl
theorem S29 : szB P 29 = some 1 := by kernel_rfl
theorem Z29 : zeroL P 29 = some [.int .i64 0] := by kernel_rfl
theorem C29 : concB P 29 = true := by kernel_rfl
theorem I29 : P.underlying 29 = some (.int .i64) := by kernel_rfl
theorem A31 : aggB P 31 = some false := by kernel_rfl
theorem S31 : szB P 31 = some 1 := by kernel_rfl
theorem Z31 : zeroL P 31 = some [.nilFunc] := by kernel_rfl
theorem C31 : concB P 31 = true := by kernel_rfl
theorem A33 : aggB P 33 = some false := by kernel_rfl
theorem S33 : szB P 33 = some 1 := by kernel_rfl
theorem Z33 : zeroL P 33 = some [.nilFunc] := by kernel_rfl
theorem C33 : concB P 33 = true := by kernel_rfl
theorem A34 : aggB P 34 = some false := by kernel_rfl
theorem S34 : szB P 34 = some 1 := by kernel_rfl
theorem Z34 : zeroL P 34 = some [.nilFunc] := by kernel_rfl
theorem C34 : concB P 34 = true := by kernel_rfl
theorem A35 : aggB P 35 = some false := by kernel_rfl
theorem S35 : szB P 35 = some 1 := by kernel_rfl
theorem Z35 : zeroL P 35 = some [.nilFunc] := by kernel_rfl
theorem C35 : concB P 35 = true := by kernel_rfl
theorem A36 : aggB P 36 = some true := by kernel_rfl
theorem S36 : szB P 36 = some 5 := by kernel_rfl
theorem Z36 : zeroL P 36 = some [.int .u64 0, .int .u64 0, .bool false, .bool false, .bool false] := by kernel_rfl
theorem F36_0 : fldB P 36 0 = some 0 := by kernel_rfl
theorem F36_1 : fldB P 36 1 = some 1 := by kernel_rfl
theorem F36_2 : fldB P 36 2 = some 2 := by kernel_rfl
theorem F36_3 : fldB P 36 3 = some 3 := by kernel_rfl
theorem F36_4 : fldB P 36 4 = some 4 := by kernel_rfl
theorem B36 : strB P 36 = some ([.int .u64 0, .int .u64 0, .bool false, .bool false, .bool false], [(0, 1), (1, 1), (2, 1), (3, 1), (4, 1)]) := by kernel_rfl
theorem C36 : concB P 36 = true := by kernel_rfl
theorem A37 : aggB P 37 = some true := by kernel_rfl
theorem S37 : szB P 37 = some 5 := by kernel_rfl
theorem Z37 : zeroL P 37 = some [.int .u64 0, .int .u64 0, .bool false, .bool false, .bool false] := by kernel_rfl
theorem F37_0 : fldB P 37 0 = some 0 := by kernel_rfl
theorem F37_1 : fldB P 37 1 = some 1 := by kernel_rfl
theorem F37_2 : fldB P 37 2 = some 2 := by kernel_rfl
theorem F37_3 : fldB P 37 3 = some 3 := by kernel_rfl
theorem F37_4 : fldB P 37 4 = some 4 := by kernel_rfl
theorem B37 : strB P 37 = some ([.int .u64 0, .int .u64 0, .bool false, .bool false, .bool false], [(0, 1), (1, 1), (2, 1), (3, 1), (4, 1)]) := by kernel_rfl
theorem C37 : concB P 37 = true := by kernel_rfl
theorem A38 : aggB P 38 = some false := by kernel_rfl
theorem S38 : szB P 38 = some 1 := by kernel_rfl
theorem Z38 : zeroL P 38 = some [.nilFunc] := by kernel_rfl
theorem C38 : concB P 38 = true := by kernel_rfl
theorem A39 : aggB P 39 = some false := by kernel_rfl
theorem S39 : szB P 39 = some 1 := by kernel_rfl
theorem Z39 : zeroL P 39 = some [.slice none 0 0] := by kernel_rfl
theorem L39 : slcB P 39 = some (23, 1) := by kernel_rfl
theorem G39 : elB P 39 = some (23, [.slice none 0 0], 1, 24) := by kernel_rfl
theorem C39 : concB P 39 = true := by kernel_rfl
theorem I39 : P.underlying 39 = some (.slice 23) := by kernel_rfl
theorem A40 : aggB P 40 = some false := by kernel_rfl
theorem S40 : szB P 40 = some 1 := by kernel_rfl
theorem Z40 : zeroL P 40 = some [.nilFunc] := by kernel_rfl
theorem C40 : concB P 40 = true := by kernel_rfl
theorem A41 : aggB P 41 = some false := by kernel_rfl
theorem S41 : szB P 41 = some 1 := by kernel_rfl
theorem Z41 : zeroL P 41 = some [.nilFunc] := by kernel_rfl
theorem C41 : concB P 41 = true := by kernel_rfl
theorem A42 : aggB P 42 = some false := by kernel_rfl
theorem S42 : szB P 42 = some 1 := by kernel_rfl
theorem Z42 : zeroL P 42 = some [.nilFunc] := by kernel_rfl
theorem C42 : concB P 42 = true := by kernel_rfl
theorem A43 : aggB P 43 = some false := by kernel_rfl
theorem S43 : szB P 43 = some 1 := by kernel_rfl
theorem Z43 : zeroL P 43 = some [.nilFunc] := by kernel_rfl
theorem C43 : concB P 43 = true := by kernel_rfl
theorem A45 : aggB P 45 = some false := by kernel_rfl
theorem S45 : szB P 45 = some 1 := by kernel_rfl
theorem Z45 : zeroL P 45 = some [.nilFunc] := by kernel_rfl
theorem C45 : concB P 45 = true := by kernel_rfl
theorem A47 : aggB P 47 = some false := by kernel_rfl
theorem S47 : szB P 47 = some 1 := by kernel_rfl
theorem Z47 : zeroL P 47 = some [.nilFunc] := by kernel_rfl
theorem C47 : concB P 47 = true := by kernel_rfl
theorem A48 : aggB P 48 = some false := by kernel_rfl
theorem S48 : szB P 48 = some 1 := by kernel_rfl
theorem Z48 : zeroL P 48 = some [.nilFunc] := by kernel_rfl
theorem C48 : concB P 48 = true := by kernel_rfl
theorem A49 : aggB P 49 = some false := by kernel_rfl
theorem S49 : szB P 49 = some 1 := by kernel_rfl
theorem Z49 : zeroL P 49 = some [.nilFunc] := by kernel_rfl
theorem C49 : concB P 49 = true := by kernel_rfl
theorem A50 : aggB P 50 = some false := by kernel_rfl
theorem S50 : szB P 50 = some 1 := by kernel_rfl
theorem Z50 : zeroL P 50 = some [.nilFunc] := by kernel_rfl
theorem C50 : concB P 50 = true := by kernel_rfl
theorem A51 : aggB P 51 = some false := by kernel_rfl
theorem S51 : szB P 51 = some 1 := by kernel_rfl
theorem Z51 : zeroL P 51 = some [.nilFunc] := by kernel_rfl
theorem C51 : concB P 51 = true := by kernel_rfl
theorem A52 : aggB P 52 = some false := by kernel_rfl
theorem S52 : szB P 52 = some 1 := by kernel_rfl
theorem Z52 : zeroL P 52 = some [.nilFunc] := by kernel_rfl
theorem C52 : concB P 52 = true := by kernel_rfl
theorem A53 : aggB P 53 = some false := by kernel_rfl
theorem S53 : szB P 53 = some 1 := by kernel_rfl
theorem Z53 : zeroL P 53 = some [.slice none 0 0] := by kernel_rfl
theorem L53 : slcB P 53 = some (28, 4) := by kernel_rfl
theorem G53 : elB P 53 = some (28, [.int .u64 0, .int .u64 0, .int .u64 0, .slice none 0 0], 4, 48) := by kernel_rfl
theorem C53 : concB P 53 = true := by kernel_rfl
theorem I53 : P.underlying 53 = some (.slice 28) := by kernel_rfl
theorem A54 : aggB P 54 = some false := by kernel_rfl
theorem S54 : szB P 54 = some 1 := by kernel_rfl
theorem Z54 : zeroL P 54 = some [.nilFunc] := by kernel_rfl
theorem C54 : concB P 54 = true := by kernel_rfl
theorem A56 : aggB P 56 = some false := by kernel_rfl
theorem S56 : szB P 56 = some 1 := by kernel_rfl
theorem Z56 : zeroL P 56 = some [.nilFunc] := by kernel_rfl
theorem C56 : concB P 56 = true := by kernel_rfl
theorem A58 : aggB P 58 = some false := by kernel_rfl
theorem S58 : szB P 58 = some 1 := by kernel_rfl
theorem Z58 : zeroL P 58 = some [.nilFunc] := by kernel_rfl
theorem C58 : concB P 58 = true := by kernel_rfl
theorem A59 : aggB P 59 = some false := by kernel_rfl
theorem S59 : szB P 59 = some 1 := by kernel_rfl
theorem Z59 : zeroL P 59 = some [.nilFunc] := by kernel_rfl
theorem C59 : concB P 59 = true := by kernel_rfl
theorem A60 : aggB P 60 = some false := by kernel_rfl
theorem S60 : szB P 60 = some 1 := by kernel_rfl
theorem Z60 : zeroL P 60 = some [.nilFunc] := by kernel_rfl
theorem C60 : concB P 60 = true := by kernel_rfl
theorem A61 : aggB P 61 = some false := by kernel_rfl
theorem S61 : szB P 61 = some 1 := by kernel_rfl
theorem Z61 : zeroL P 61 = some [.nilFunc] := by kernel_rfl
theorem C61 : concB P 61 = true := by kernel_rfl
theorem A62 : aggB P 62 = some false := by kernel_rfl
theorem S62 : szB P 62 = some 1 := by kernel_rfl
theorem Z62 : zeroL P 62 = some [.slice none 0 0] := by kernel_rfl
theorem L62 : slcB P 62 = some (65, 2) := by kernel_rfl
theorem G62 : elB P 62 = some (65, [.slice none 0 0, .slice none 0 0], 2, 48) := by kernel_rfl
theorem C62 : concB P 62 = true := by kernel_rfl
theorem I62 : P.underlying 62 = some (.slice 65) := by kernel_rfl
theorem A63 : aggB P 63 = some false := by kernel_rfl
theorem S63 : szB P 63 = some 1 := by kernel_rfl
theorem Z63 : zeroL P 63 = some [.slice none 0 0] := by kernel_rfl
theorem L63 : slcB P 63 = some (4, 1) := by kernel_rfl
theorem G63 : elB P 63 = some (4, [.bool false], 1, 1) := by kernel_rfl
theorem C63 : concB P 63 = true := by kernel_rfl
theorem I63 : P.underlying 63 = some (.slice 4) := by kernel_rfl
theorem A64 : aggB P 64 = some true := by kernel_rfl
theorem S64 : szB P 64 = some 2 := by kernel_rfl
theorem Z64 : zeroL P 64 = some [.slice none 0 0, .slice none 0 0] := by kernel_rfl
theorem F64_0 : fldB P 64 0 = some 0 := by kernel_rfl
theorem F64_1 : fldB P 64 1 = some 1 := by kernel_rfl
theorem B64 : strB P 64 = some ([.slice none 0 0, .slice none 0 0], [(0, 1), (1, 1)]) := by kernel_rfl
theorem C64 : concB P 64 = true := by kernel_rfl
theorem A65 : aggB P 65 = some true := by kernel_rfl
theorem S65 : szB P 65 = some 2 := by kernel_rfl
theorem Z65 : zeroL P 65 = some [.slice none 0 0, .slice none 0 0] := by kernel_rfl
theorem F65_0 : fldB P 65 0 = some 0 := by kernel_rfl
theorem F65_1 : fldB P 65 1 = some 1 := by kernel_rfl
theorem B65 : strB P 65 = some ([.slice none 0 0, .slice none 0 0], [(0, 1), (1, 1)]) := by kernel_rfl
theorem C65 : concB P 65 = true := by kernel_rfl
theorem A66 : aggB P 66 = some false := by kernel_rfl
theorem S66 : szB P 66 = some 1 := by kernel_rfl
theorem Z66 : zeroL P 66 = some [.nilFunc] := by kernel_rfl
theorem C66 : concB P 66 = true := by kernel_rfl
theorem A67 : aggB P 67 = some false := by kernel_rfl
theorem S67 : szB P 67 = some 1 := by kernel_rfl
theorem Z67 : zeroL P 67 = some [.nilFunc] := by kernel_rfl
theorem C67 : concB P 67 = true := by kernel_rfl
theorem A68 : aggB P 68 = some false := by kernel_rfl
theorem S68 : szB P 68 = some 1 := by kernel_rfl
theorem Z68 : zeroL P 68 = some [.nilFunc] := by kernel_rfl
theorem C68 : concB P 68 = true := by kernel_rfl
theorem A69 : aggB P 69 = some false := by kernel_rfl
theorem S69 : szB P 69 = some 1 := by kernel_rfl
theorem Z69 : zeroL P 69 = some [.slice none 0 0] := by kernel_rfl
theorem L69 : slcB P 69 = some (73, 2) := by kernel_rfl
theorem G69 : elB P 69 = some (73, [.int .i64 0, .int .i64 0], 2, 16) := by kernel_rfl
theorem C69 : concB P 69 = true := by kernel_rfl
theorem I69 : P.underlying 69 = some (.slice 73) := by kernel_rfl
theorem A70 : aggB P 70 = some false := by kernel_rfl
theorem S70 : szB P 70 = some 1 := by kernel_rfl
theorem Z70 : zeroL P 70 = some [.nilFunc] := by kernel_rfl
theorem C70 : concB P 70 = true := by kernel_rfl
theorem A71 : aggB P 71 = some false := by kernel_rfl
theorem S71 : szB P 71 = some 1 := by kernel_rfl
theorem Z71 : zeroL P 71 = some [.nilFunc] := by kernel_rfl
theorem C71 : concB P 71 = true := by kernel_rfl
theorem A72 : aggB P 72 = some true := by kernel_rfl
theorem S72 : szB P 72 = some 2 := by kernel_rfl
theorem Z72 : zeroL P 72 = some [.int .i64 0, .int .i64 0] := by kernel_rfl
theorem F72_0 : fldB P 72 0 = some 0 := by kernel_rfl
theorem F72_1 : fldB P 72 1 = some 1 := by kernel_rfl
theorem B72 : strB P 72 = some ([.int .i64 0, .int .i64 0], [(0, 1), (1, 1)]) := by kernel_rfl
theorem C72 : concB P 72 = true := by kernel_rfl
theorem A73 : aggB P 73 = some true := by kernel_rfl
theorem S73 : szB P 73 = some 2 := by kernel_rfl
theorem Z73 : zeroL P 73 = some [.int .i64 0, .int .i64 0] := by kernel_rfl
theorem F73_0 : fldB P 73 0 = some 0 := by kernel_rfl
theorem F73_1 : fldB P 73 1 = some 1 := by kernel_rfl
theorem B73 : strB P 73 = some ([.int .i64 0, .int .i64 0], [(0, 1), (1, 1)]) := by kernel_rfl
theorem C73 : concB P 73 = true := by kernel_rfl
theorem A74 : aggB P 74 = some false := by kernel_rfl
theorem S74 : szB P 74 = some 1 := by kernel_rfl
theorem Z74 : zeroL P 74 = some [.nilFunc] := by kernel_rfl
theorem C74 : concB P 74 = true := by kernel_rfl
theorem A75 : aggB P 75 = some true := by kernel_rfl
theorem S75 : szB P 75 = some 4 := by kernel_rfl
theorem Z75 : zeroL P 75 = some [.int .u64 0, .int .u64 0, .bool false, .slice none 0 0] := by kernel_rfl
theorem F75_0 : fldB P 75 0 = some 0 := by kernel_rfl
theorem F75_1 : fldB P 75 1 = some 1 := by kernel_rfl
theorem F75_2 : fldB P 75 2 = some 2 := by kernel_rfl
theorem F75_3 : fldB P 75 3 = some 3 := by kernel_rfl
theorem B75 : strB P 75 = some ([.int .u64 0, .int .u64 0, .bool false, .slice none 0 0], [(0, 1), (1, 1), (2, 1), (3, 1)]) := by kernel_rfl
theorem C75 : concB P 75 = true := by kernel_rfl
theorem A76 : aggB P 76 = some true := by kernel_rfl
theorem S76 : szB P 76 = some 4 := by kernel_rfl
theorem Z76 : zeroL P 76 = some [.int .u64 0, .int .u64 0, .bool false, .slice none 0 0] := by kernel_rfl
theorem F76_0 : fldB P 76 0 = some 0 := by kernel_rfl
theorem F76_1 : fldB P 76 1 = some 1 := by kernel_rfl
theorem F76_2 : fldB P 76 2 = some 2 := by kernel_rfl
theorem F76_3 : fldB P 76 3 = some 3 := by kernel_rfl
theorem B76 : strB P 76 = some ([.int .u64 0, .int .u64 0, .bool false, .slice none 0 0], [(0, 1), (1, 1), (2, 1), (3, 1)]) := by kernel_rfl
theorem C76 : concB P 76 = true := by kernel_rfl
theorem A77 : aggB P 77 = some false := by kernel_rfl
theorem S77 : szB P 77 = some 1 := by kernel_rfl
theorem Z77 : zeroL P 77 = some [.nilFunc] := by kernel_rfl
theorem C77 : concB P 77 = true := by kernel_rfl
theorem A78 : aggB P 78 = some false := by kernel_rfl
theorem S78 : szB P 78 = some 1 := by kernel_rfl
theorem Z78 : zeroL P 78 = some [.slice none 0 0] := by kernel_rfl
theorem L78 : slcB P 78 = some (80, 3) := by kernel_rfl
theorem G78 : elB P 78 = some (80, [.bool false, .bool false, .int .u8 0], 3, 3) := by kernel_rfl
theorem C78 : concB P 78 = true := by kernel_rfl
theorem I78 : P.underlying 78 = some (.slice 80) := by kernel_rfl
theorem A79 : aggB P 79 = some true := by kernel_rfl
theorem S79 : szB P 79 = some 3 := by kernel_rfl
theorem Z79 : zeroL P 79 = some [.bool false, .bool false, .int .u8 0] := by kernel_rfl
theorem F79_0 : fldB P 79 0 = some 0 := by kernel_rfl
theorem F79_1 : fldB P 79 1 = some 1 := by kernel_rfl
theorem F79_2 : fldB P 79 2 = some 2 := by kernel_rfl
theorem B79 : strB P 79 = some ([.bool false, .bool false, .int .u8 0], [(0, 1), (1, 1), (2, 1)]) := by kernel_rfl
theorem C79 : concB P 79 = true := by kernel_rfl
theorem A80 : aggB P 80 = some true := by kernel_rfl
theorem S80 : szB P 80 = some 3 := by kernel_rfl
theorem Z80 : zeroL P 80 = some [.bool false, .bool false, .int .u8 0] := by kernel_rfl
theorem F80_0 : fldB P 80 0 = some 0 := by kernel_rfl
theorem F80_1 : fldB P 80 1 = some 1 := by kernel_rfl
theorem F80_2 : fldB P 80 2 = some 2 := by kernel_rfl
theorem B80 : strB P 80 = some ([.bool false, .bool false, .int .u8 0], [(0, 1), (1, 1), (2, 1)]) := by kernel_rfl
theorem C80 : concB P 80 = true := by kernel_rfl
theorem A81 : aggB P 81 = some false := by kernel_rfl
theorem S81 : szB P 81 = some 1 := by kernel_rfl
theorem Z81 : zeroL P 81 = some [.nilFunc] := by kernel_rfl
theorem C81 : concB P 81 = true := by kernel_rfl
theorem A82 : aggB P 82 = some false := by kernel_rfl
theorem S82 : szB P 82 = some 1 := by kernel_rfl
theorem Z82 : zeroL P 82 = some [.pointer none] := by kernel_rfl
theorem C82 : concB P 82 = true := by kernel_rfl
theorem I82 : P.underlying 82 = some (.pointer 122) := by kernel_rfl
theorem A83 : aggB P 83 = some false := by kernel_rfl
theorem S83 : szB P 83 = some 1 := by kernel_rfl
theorem Z83 : zeroL P 83 = some [.nilFunc] := by kernel_rfl
theorem C83 : concB P 83 = true := by kernel_rfl
theorem A84 : aggB P 84 = some false := by kernel_rfl
theorem S84 : szB P 84 = some 1 := by kernel_rfl
theorem Z84 : zeroL P 84 = some [.slice none 0 0] := by kernel_rfl
theorem L84 : slcB P 84 = some (22, 1) := by kernel_rfl
theorem G84 : elB P 84 = some (22, [.int .u64 0], 1, 8) := by kernel_rfl
theorem C84 : concB P 84 = true := by kernel_rfl
theorem I84 : P.underlying 84 = some (.slice 22) := by kernel_rfl
theorem A85 : aggB P 85 = some false := by kernel_rfl
theorem S85 : szB P 85 = some 1 := by kernel_rfl
theorem Z85 : zeroL P 85 = some [.nilFunc] := by kernel_rfl
theorem C85 : concB P 85 = true := by kernel_rfl
theorem A86 : aggB P 86 = some false := by kernel_rfl
theorem S86 : szB P 86 = some 1 := by kernel_rfl
theorem Z86 : zeroL P 86 = some [.nilFunc] := by kernel_rfl
theorem C86 : concB P 86 = true := by kernel_rfl
theorem A87 : aggB P 87 = some false := by kernel_rfl
theorem S87 : szB P 87 = some 1 := by kernel_rfl
theorem Z87 : zeroL P 87 = some [.nilFunc] := by kernel_rfl
theorem C87 : concB P 87 = true := by kernel_rfl
theorem A88 : aggB P 88 = some false := by kernel_rfl
theorem S88 : szB P 88 = some 1 := by kernel_rfl
theorem Z88 : zeroL P 88 = some [.nilFunc] := by kernel_rfl
theorem C88 : concB P 88 = true := by kernel_rfl
theorem A89 : aggB P 89 = some false := by kernel_rfl
theorem S89 : szB P 89 = some 1 := by kernel_rfl
theorem Z89 : zeroL P 89 = some [.nilFunc] := by kernel_rfl
theorem C89 : concB P 89 = true := by kernel_rfl
theorem A90 : aggB P 90 = some false := by kernel_rfl
theorem S90 : szB P 90 = some 1 := by kernel_rfl
theorem Z90 : zeroL P 90 = some [.int .u32 0] := by kernel_rfl
theorem C90 : concB P 90 = true := by kernel_rfl
theorem I90 : P.underlying 90 = some (.int .u32) := by kernel_rfl
theorem A91 : aggB P 91 = some false := by kernel_rfl
theorem S91 : szB P 91 = some 1 := by kernel_rfl
theorem Z91 : zeroL P 91 = some [.nilFunc] := by kernel_rfl
theorem C91 : concB P 91 = true := by kernel_rfl
theorem A92 : aggB P 92 = some true := by kernel_rfl
theorem S92 : szB P 92 = some 1 := by kernel_rfl
theorem Z92 : zeroL P 92 = some [.int .i64 0] := by kernel_rfl
theorem F92_0 : fldB P 92 0 = some 0 := by kernel_rfl
theorem B92 : strB P 92 = some ([.int .i64 0], [(0, 1)]) := by kernel_rfl
theorem C92 : concB P 92 = true := by kernel_rfl
theorem A93 : aggB P 93 = some true := by kernel_rfl
theorem S93 : szB P 93 = some 1 := by kernel_rfl
theorem Z93 : zeroL P 93 = some [.int .i64 0] := by kernel_rfl
theorem F93_0 : fldB P 93 0 = some 0 := by kernel_rfl
theorem B93 : strB P 93 = some ([.int .i64 0], [(0, 1)]) := by kernel_rfl
theorem C93 : concB P 93 = true := by kernel_rfl
theorem A95 : aggB P 95 = some false := by kernel_rfl
theorem S95 : szB P 95 = some 1 := by kernel_rfl
theorem Z95 : zeroL P 95 = some [.pointer none] := by kernel_rfl
theorem C95 : concB P 95 = true := by kernel_rfl
theorem I95 : P.underlying 95 = some (.pointer 129) := by kernel_rfl
theorem A96 : aggB P 96 = some false := by kernel_rfl
theorem S96 : szB P 96 = some 1 := by kernel_rfl
theorem Z96 : zeroL P 96 = some [.nilFunc] := by kernel_rfl
theorem C96 : concB P 96 = true := by kernel_rfl
theorem A97 : aggB P 97 = some true := by kernel_rfl
theorem S97 : szB P 97 = some 1 := by kernel_rfl
theorem Z97 : zeroL P 97 = some [.pointer none] := by kernel_rfl
theorem F97_0 : fldB P 97 0 = some 0 := by kernel_rfl
theorem B97 : strB P 97 = some ([.pointer none], [(0, 1)]) := by kernel_rfl
theorem C97 : concB P 97 = true := by kernel_rfl
theorem A98 : aggB P 98 = some true := by kernel_rfl
theorem S98 : szB P 98 = some 1 := by kernel_rfl
theorem Z98 : zeroL P 98 = some [.pointer none] := by kernel_rfl
theorem F98_0 : fldB P 98 0 = some 0 := by kernel_rfl
theorem B98 : strB P 98 = some ([.pointer none], [(0, 1)]) := by kernel_rfl
theorem C98 : concB P 98 = true := by kernel_rfl
theorem A100 : aggB P 100 = some false := by kernel_rfl
theorem S100 : szB P 100 = some 1 := by kernel_rfl
theorem Z100 : zeroL P 100 = some [.nilFunc] := by kernel_rfl
theorem C100 : concB P 100 = true := by kernel_rfl
theorem A101 : aggB P 101 = some false := by kernel_rfl
theorem S101 : szB P 101 = some 1 := by kernel_rfl
theorem Z101 : zeroL P 101 = some [.nilFunc] := by kernel_rfl
theorem C101 : concB P 101 = true := by kernel_rfl
theorem A102 : aggB P 102 = some false := by kernel_rfl
theorem S102 : szB P 102 = some 1 := by kernel_rfl
theorem Z102 : zeroL P 102 = some [.nilFunc] := by kernel_rfl
theorem C102 : concB P 102 = true := by kernel_rfl
theorem A103 : aggB P 103 = some false := by kernel_rfl
theorem S103 : szB P 103 = some 1 := by kernel_rfl
theorem Z103 : zeroL P 103 = some [.nilFunc] := by kernel_rfl
theorem C103 : concB P 103 = true := by kernel_rfl
theorem A104 : aggB P 104 = some false := by kernel_rfl
theorem S104 : szB P 104 = some 1 := by kernel_rfl
theorem Z104 : zeroL P 104 = some [.nilFunc] := by kernel_rfl
theorem C104 : concB P 104 = true := by kernel_rfl
theorem A105 : aggB P 105 = some false := by kernel_rfl
theorem S105 : szB P 105 = some 1 := by kernel_rfl
theorem Z105 : zeroL P 105 = some [.nilFunc] := by kernel_rfl
theorem C105 : concB P 105 = true := by kernel_rfl
theorem A106 : aggB P 106 = some false := by kernel_rfl
theorem S106 : szB P 106 = some 1 := by kernel_rfl
theorem Z106 : zeroL P 106 = some [.nilFunc] := by kernel_rfl
theorem C106 : concB P 106 = true := by kernel_rfl
theorem A107 : aggB P 107 = some true := by kernel_rfl
theorem S107 : szB P 107 = some 8 := by kernel_rfl
theorem Z107 : zeroL P 107 = some [.int .u64 0, .int .u64 0, .int .u64 0, .slice none 0 0, .int .u64 0, .int .u64 0, .int .u64 0, .slice none 0 0] := by kernel_rfl
theorem Y107 : arrB P 107 = some (2, 4) := by kernel_rfl
theorem C107 : concB P 107 = true := by kernel_rfl
theorem A108 : aggB P 108 = some false := by kernel_rfl
theorem S108 : szB P 108 = some 1 := by kernel_rfl
theorem Z108 : zeroL P 108 = some [.pointer none] := by kernel_rfl
theorem C108 : concB P 108 = true := by kernel_rfl
theorem I108 : P.underlying 108 = some (.pointer 138) := by kernel_rfl
theorem A110 : aggB P 110 = some false := by kernel_rfl
theorem S110 : szB P 110 = some 1 := by kernel_rfl
theorem Z110 : zeroL P 110 = some [.nilFunc] := by kernel_rfl
theorem C110 : concB P 110 = true := by kernel_rfl
theorem A111 : aggB P 111 = some true := by kernel_rfl
theorem S111 : szB P 111 = some 2 := by kernel_rfl
theorem Z111 : zeroL P 111 = some [.int .i64 0, .int .i64 0] := by kernel_rfl
theorem F111_0 : fldB P 111 0 = some 0 := by kernel_rfl
theorem F111_1 : fldB P 111 1 = some 1 := by kernel_rfl
theorem B111 : strB P 111 = some ([.int .i64 0, .int .i64 0], [(0, 1), (1, 1)]) := by kernel_rfl
theorem C111 : concB P 111 = true := by kernel_rfl
theorem A112 : aggB P 112 = some true := by kernel_rfl
theorem S112 : szB P 112 = some 2 := by kernel_rfl
theorem Z112 : zeroL P 112 = some [.int .i64 0, .int .i64 0] := by kernel_rfl
theorem F112_0 : fldB P 112 0 = some 0 := by kernel_rfl
theorem F112_1 : fldB P 112 1 = some 1 := by kernel_rfl
theorem B112 : strB P 112 = some ([.int .i64 0, .int .i64 0], [(0, 1), (1, 1)]) := by kernel_rfl
theorem C112 : concB P 112 = true := by kernel_rfl
theorem A113 : aggB P 113 = some false := by kernel_rfl
theorem S113 : szB P 113 = some 1 := by kernel_rfl
theorem Z113 : zeroL P 113 = some [.nilFunc] := by kernel_rfl
theorem C113 : concB P 113 = true := by kernel_rfl
theorem A114 : aggB P 114 = some false := by kernel_rfl
theorem S114 : szB P 114 = some 1 := by kernel_rfl
theorem Z114 : zeroL P 114 = some [.nilFunc] := by kernel_rfl
theorem C114 : concB P 114 = true := by kernel_rfl
theorem A115 : aggB P 115 = some false := by kernel_rfl
theorem S115 : szB P 115 = some 1 := by kernel_rfl
theorem Z115 : zeroL P 115 = some [.nilFunc] := by kernel_rfl
theorem C115 : concB P 115 = true := by kernel_rfl
theorem A116 : aggB P 116 = some false := by kernel_rfl
theorem S116 : szB P 116 = some 1 := by kernel_rfl
theorem Z116 : zeroL P 116 = some [.nilFunc] := by kernel_rfl
theorem C116 : concB P 116 = true := by kernel_rfl
theorem A117 : aggB P 117 = some true := by kernel_rfl
theorem S117 : szB P 117 = some 4 := by kernel_rfl
theorem Z117 : zeroL P 117 = some [.int .i64 0, .int .i64 0, .int .i64 0, .int .i64 0] := by kernel_rfl
theorem F117_0 : fldB P 117 0 = some 0 := by kernel_rfl
theorem F117_1 : fldB P 117 1 = some 1 := by kernel_rfl
theorem F117_2 : fldB P 117 2 = some 2 := by kernel_rfl
theorem B117 : strB P 117 = some ([.int .i64 0, .int .i64 0, .int .i64 0, .int .i64 0], [(0, 1), (1, 1), (2, 2)]) := by kernel_rfl
theorem C117 : concB P 117 = true := by kernel_rfl
theorem A118 : aggB P 118 = some true := by kernel_rfl
theorem S118 : szB P 118 = some 4 := by kernel_rfl
theorem Z118 : zeroL P 118 = some [.int .i64 0, .int .i64 0, .int .i64 0, .int .i64 0] := by kernel_rfl
theorem F118_0 : fldB P 118 0 = some 0 := by kernel_rfl
theorem F118_1 : fldB P 118 1 = some 1 := by kernel_rfl
theorem F118_2 : fldB P 118 2 = some 2 := by kernel_rfl
theorem B118 : strB P 118 = some ([.int .i64 0, .int .i64 0, .int .i64 0, .int .i64 0], [(0, 1), (1, 1), (2, 2)]) := by kernel_rfl
theorem C118 : concB P 118 = true := by kernel_rfl
theorem A119 : aggB P 119 = some false := by kernel_rfl
theorem S119 : szB P 119 = some 1 := by kernel_rfl
theorem Z119 : zeroL P 119 = some [.nilFunc] := by kernel_rfl
theorem C119 : concB P 119 = true := by kernel_rfl
theorem A120 : aggB P 120 = some false := by kernel_rfl
theorem S120 : szB P 120 = some 1 := by kernel_rfl
theorem Z120 : zeroL P 120 = some [.nilFunc] := by kernel_rfl
theorem C120 : concB P 120 = true := by kernel_rfl
theorem A121 : aggB P 121 = some true := by kernel_rfl
theorem S121 : szB P 121 = some 2 := by kernel_rfl
theorem Z121 : zeroL P 121 = some [.bool false, .slice none 0 0] := by kernel_rfl
theorem F121_0 : fldB P 121 0 = some 0 := by kernel_rfl
theorem F121_1 : fldB P 121 1 = some 1 := by kernel_rfl
theorem B121 : strB P 121 = some ([.bool false, .slice none 0 0], [(0, 1), (1, 1)]) := by kernel_rfl
theorem C121 : concB P 121 = true := by kernel_rfl
theorem A122 : aggB P 122 = some true := by kernel_rfl
theorem S122 : szB P 122 = some 2 := by kernel_rfl
theorem Z122 : zeroL P 122 = some [.bool false, .slice none 0 0] := by kernel_rfl
theorem F122_0 : fldB P 122 0 = some 0 := by kernel_rfl
theorem F122_1 : fldB P 122 1 = some 1 := by kernel_rfl
theorem B122 : strB P 122 = some ([.bool false, .slice none 0 0], [(0, 1), (1, 1)]) := by kernel_rfl
theorem C122 : concB P 122 = true := by kernel_rfl
theorem A123 : aggB P 123 = some false := by kernel_rfl
theorem S123 : szB P 123 = some 1 := by kernel_rfl
theorem Z123 : zeroL P 123 = some [.nilFunc] := by kernel_rfl
theorem C123 : concB P 123 = true := by kernel_rfl
theorem A124 : aggB P 124 = some false := by kernel_rfl
theorem S124 : szB P 124 = some 1 := by kernel_rfl
theorem Z124 : zeroL P 124 = some [.nilFunc] := by kernel_rfl
theorem C124 : concB P 124 = true := by kernel_rfl
theorem A125 : aggB P 125 = some false := by kernel_rfl
theorem S125 : szB P 125 = some 1 := by kernel_rfl
theorem Z125 : zeroL P 125 = some [.nilFunc] := by kernel_rfl
theorem C125 : concB P 125 = true := by kernel_rfl
theorem A126 : aggB P 126 = some false := by kernel_rfl
theorem S126 : szB P 126 = some 1 := by kernel_rfl
theorem Z126 : zeroL P 126 = some [.nilFunc] := by kernel_rfl
theorem C126 : concB P 126 = true := by kernel_rfl
theorem A127 : aggB P 127 = some false := by kernel_rfl
theorem S127 : szB P 127 = some 1 := by kernel_rfl
theorem Z127 : zeroL P 127 = some [.int .u64 0] := by kernel_rfl
theorem C127 : concB P 127 = true := by kernel_rfl
theorem I127 : P.underlying 127 = some (.int .u64) := by kernel_rfl
theorem A128 : aggB P 128 = some true := by kernel_rfl
theorem S128 : szB P 128 = some 3 := by kernel_rfl
theorem Z128 : zeroL P 128 = some [.bool false, .slice none 0 0, .int .i64 0] := by kernel_rfl
theorem F128_0 : fldB P 128 0 = some 0 := by kernel_rfl
theorem F128_1 : fldB P 128 1 = some 1 := by kernel_rfl
theorem F128_2 : fldB P 128 2 = some 2 := by kernel_rfl
theorem B128 : strB P 128 = some ([.bool false, .slice none 0 0, .int .i64 0], [(0, 1), (1, 1), (2, 1)]) := by kernel_rfl
theorem C128 : concB P 128 = true := by kernel_rfl
theorem A129 : aggB P 129 = some true := by kernel_rfl
theorem S129 : szB P 129 = some 3 := by kernel_rfl
theorem Z129 : zeroL P 129 = some [.bool false, .slice none 0 0, .int .i64 0] := by kernel_rfl
theorem F129_0 : fldB P 129 0 = some 0 := by kernel_rfl
theorem F129_1 : fldB P 129 1 = some 1 := by kernel_rfl
theorem F129_2 : fldB P 129 2 = some 2 := by kernel_rfl
theorem B129 : strB P 129 = some ([.bool false, .slice none 0 0, .int .i64 0], [(0, 1), (1, 1), (2, 1)]) := by kernel_rfl
theorem C129 : concB P 129 = true := by kernel_rfl
theorem A130 : aggB P 130 = some false := by kernel_rfl
theorem S130 : szB P 130 = some 1 := by kernel_rfl
theorem Z130 : zeroL P 130 = some [.nilFunc] := by kernel_rfl
theorem C130 : concB P 130 = true := by kernel_rfl
theorem A131 : aggB P 131 = some false := by kernel_rfl
theorem S131 : szB P 131 = some 1 := by kernel_rfl
theorem Z131 : zeroL P 131 = some [.nilFunc] := by kernel_rfl
theorem C131 : concB P 131 = true := by kernel_rfl
theorem A133 : aggB P 133 = some false := by kernel_rfl
theorem S133 : szB P 133 = some 1 := by kernel_rfl
theorem Z133 : zeroL P 133 = some [.nilFunc] := by kernel_rfl
theorem C133 : concB P 133 = true := by kernel_rfl
theorem A135 : aggB P 135 = some false := by kernel_rfl
theorem S135 : szB P 135 = some 1 := by kernel_rfl
theorem Z135 : zeroL P 135 = some [.nilFunc] := by kernel_rfl
theorem C135 : concB P 135 = true := by kernel_rfl
theorem A136 : aggB P 136 = some false := by kernel_rfl
theorem S136 : szB P 136 = some 1 := by kernel_rfl
theorem Z136 : zeroL P 136 = some [.slice none 0 0] := by kernel_rfl
theorem L136 : slcB P 136 = some (118, 4) := by kernel_rfl
theorem G136 : elB P 136 = some (118, [.int .i64 0, .int .i64 0, .int .i64 0, .int .i64 0], 4, 32) := by kernel_rfl
theorem C136 : concB P 136 = true := by kernel_rfl
theorem I136 : P.underlying 136 = some (.slice 118) := by kernel_rfl
theorem A137 : aggB P 137 = some true := by kernel_rfl
theorem S137 : szB P 137 = some 3 := by kernel_rfl
theorem Z137 : zeroL P 137 = some [.bool false, .int .i64 0, .slice none 0 0] := by kernel_rfl
theorem F137_0 : fldB P 137 0 = some 0 := by kernel_rfl
theorem F137_1 : fldB P 137 1 = some 1 := by kernel_rfl
theorem F137_2 : fldB P 137 2 = some 2 := by kernel_rfl
theorem B137 : strB P 137 = some ([.bool false, .int .i64 0, .slice none 0 0], [(0, 1), (1, 1), (2, 1)]) := by kernel_rfl
theorem C137 : concB P 137 = true := by kernel_rfl
theorem A138 : aggB P 138 = some true := by kernel_rfl
theorem S138 : szB P 138 = some 3 := by kernel_rfl
theorem Z138 : zeroL P 138 = some [.bool false, .int .i64 0, .slice none 0 0] := by kernel_rfl
theorem F138_0 : fldB P 138 0 = some 0 := by kernel_rfl
theorem F138_1 : fldB P 138 1 = some 1 := by kernel_rfl
theorem F138_2 : fldB P 138 2 = some 2 := by kernel_rfl
theorem B138 : strB P 138 = some ([.bool false, .int .i64 0, .slice none 0 0], [(0, 1), (1, 1), (2, 1)]) := by kernel_rfl
theorem C138 : concB P 138 = true := by kernel_rfl
theorem A139 : aggB P 139 = some false := by kernel_rfl
theorem S139 : szB P 139 = some 1 := by kernel_rfl
theorem Z139 : zeroL P 139 = some [.nilFunc] := by kernel_rfl
theorem C139 : concB P 139 = true := by kernel_rfl
theorem A140 : aggB P 140 = some false := by kernel_rfl
theorem S140 : szB P 140 = some 1 := by kernel_rfl
theorem Z140 : zeroL P 140 = some [.nilFunc] := by kernel_rfl
theorem C140 : concB P 140 = true := by kernel_rfl
theorem A141 : aggB P 141 = some false := by kernel_rfl
theorem S141 : szB P 141 = some 1 := by kernel_rfl
theorem Z141 : zeroL P 141 = some [.nilFunc] := by kernel_rfl
theorem C141 : concB P 141 = true := by kernel_rfl
theorem A142 : aggB P 142 = some false := by kernel_rfl
theorem S142 : szB P 142 = some 1 := by kernel_rfl
theorem Z142 : zeroL P 142 = some [.nilFunc] := by kernel_rfl
theorem C142 : concB P 142 = true := by kernel_rfl
theorem A143 : aggB P 143 = some false := by kernel_rfl
theorem S143 : szB P 143 = some 1 := by kernel_rfl
theorem Z143 : zeroL P 143 = some [.nilFunc] := by kernel_rfl
theorem C143 : concB P 143 = true := by kernel_rfl
theorem A144 : aggB P 144 = some false := by kernel_rfl
theorem S144 : szB P 144 = some 1 := by kernel_rfl
theorem Z144 : zeroL P 144 = some [.nilFunc] := by kernel_rfl
theorem C144 : concB P 144 = true := by kernel_rfl
theorem A145 : aggB P 145 = some false := by kernel_rfl
theorem S145 : szB P 145 = some 1 := by kernel_rfl
theorem Z145 : zeroL P 145 = some [.pointer none] := by kernel_rfl
theorem C145 : concB P 145 = true := by kernel_rfl
theorem A146 : aggB P 146 = some false := by kernel_rfl
theorem S146 : szB P 146 = some 1 := by kernel_rfl
theorem Z146 : zeroL P 146 = some [.int .u64 0] := by kernel_rfl
theorem C146 : concB P 146 = true := by kernel_rfl
theorem I146 : P.underlying 146 = some (.int .u64) := by kernel_rfl
theorem A147 : aggB P 147 = some true := by kernel_rfl
theorem S147 : szB P 147 = some 3 := by kernel_rfl
theorem Z147 : zeroL P 147 = some [.pointer none, .pointer none, .int .u64 0] := by kernel_rfl
theorem F147_0 : fldB P 147 0 = some 0 := by kernel_rfl
theorem F147_1 : fldB P 147 1 = some 1 := by kernel_rfl
theorem F147_2 : fldB P 147 2 = some 2 := by kernel_rfl
theorem B147 : strB P 147 = some ([.pointer none, .pointer none, .int .u64 0], [(0, 1), (1, 1), (2, 1)]) := by kernel_rfl
theorem C147 : concB P 147 = true := by kernel_rfl
theorem A148 : aggB P 148 = some true := by kernel_rfl
theorem S148 : szB P 148 = some 3 := by kernel_rfl
theorem Z148 : zeroL P 148 = some [.pointer none, .pointer none, .int .u64 0] := by kernel_rfl
theorem F148_0 : fldB P 148 0 = some 0 := by kernel_rfl
theorem F148_1 : fldB P 148 1 = some 1 := by kernel_rfl
theorem F148_2 : fldB P 148 2 = some 2 := by kernel_rfl
theorem B148 : strB P 148 = some ([.pointer none, .pointer none, .int .u64 0], [(0, 1), (1, 1), (2, 1)]) := by kernel_rfl
theorem C148 : concB P 148 = true := by kernel_rfl
theorem A149 : aggB P 149 = some false := by kernel_rfl
theorem S149 : szB P 149 = some 1 := by kernel_rfl
theorem Z149 : zeroL P 149 = some [.nilFunc] := by kernel_rfl
theorem C149 : concB P 149 = true := by kernel_rfl
theorem A150 : aggB P 150 = some false := by kernel_rfl
theorem S150 : szB P 150 = some 1 := by kernel_rfl
theorem Z150 : zeroL P 150 = some [.nilFunc] := by kernel_rfl
theorem C150 : concB P 150 = true := by kernel_rfl
theorem A151 : aggB P 151 = some false := by kernel_rfl
theorem S151 : szB P 151 = some 1 := by kernel_rfl
theorem Z151 : zeroL P 151 = some [.nilFunc] := by kernel_rfl
theorem C151 : concB P 151 = true := by kernel_rfl
theorem A152 : aggB P 152 = some false := by kernel_rfl
theorem S152 : szB P 152 = some 1 := by kernel_rfl
theorem Z152 : zeroL P 152 = some [.nilFunc] := by kernel_rfl
theorem C152 : concB P 152 = true := by kernel_rfl
theorem A153 : aggB P 153 = some false := by kernel_rfl
theorem S153 : szB P 153 = some 1 := by kernel_rfl
theorem Z153 : zeroL P 153 = some [.nilFunc] := by kernel_rfl
theorem C153 : concB P 153 = true := by kernel_rfl
theorem A154 : aggB P 154 = some true := by kernel_rfl
theorem S154 : szB P 154 = some 2 := by kernel_rfl
theorem Z154 : zeroL P 154 = some [.nilFunc, .nilFunc] := by kernel_rfl
theorem F154_0 : fldB P 154 0 = some 0 := by kernel_rfl
theorem F154_1 : fldB P 154 1 = some 1 := by kernel_rfl
theorem B154 : strB P 154 = some ([.nilFunc, .nilFunc], [(0, 1), (1, 1)]) := by kernel_rfl
theorem C154 : concB P 154 = true := by kernel_rfl
theorem A155 : aggB P 155 = some true := by kernel_rfl
theorem S155 : szB P 155 = some 2 := by kernel_rfl
theorem Z155 : zeroL P 155 = some [.nilFunc, .nilFunc] := by kernel_rfl
theorem F155_0 : fldB P 155 0 = some 0 := by kernel_rfl
theorem F155_1 : fldB P 155 1 = some 1 := by kernel_rfl
theorem B155 : strB P 155 = some ([.nilFunc, .nilFunc], [(0, 1), (1, 1)]) := by kernel_rfl
theorem C155 : concB P 155 = true := by kernel_rfl
theorem A156 : aggB P 156 = some true := by kernel_rfl
theorem S156 : szB P 156 = some 1 := by kernel_rfl
theorem Z156 : zeroL P 156 = some [.pointer none] := by kernel_rfl
theorem F156_0 : fldB P 156 0 = some 0 := by kernel_rfl
theorem B156 : strB P 156 = some ([.pointer none], [(0, 1)]) := by kernel_rfl
theorem C156 : concB P 156 = true := by kernel_rfl
theorem A157 : aggB P 157 = some true := by kernel_rfl
theorem S157 : szB P 157 = some 1 := by kernel_rfl
theorem Z157 : zeroL P 157 = some [.pointer none] := by kernel_rfl
theorem F157_0 : fldB P 157 0 = some 0 := by kernel_rfl
theorem B157 : strB P 157 = some ([.pointer none], [(0, 1)]) := by kernel_rfl
theorem C157 : concB P 157 = true := by kernel_rfl
theorem A158 : aggB P 158 = some false := by kernel_rfl
theorem S158 : szB P 158 = some 1 := by kernel_rfl
theorem Z158 : zeroL P 158 = some [.pointer none] := by kernel_rfl
theorem C158 : concB P 158 = true := by kernel_rfl
theorem I158 : P.underlying 158 = some (.pointer 193) := by kernel_rfl
theorem A159 : aggB P 159 = some false := by kernel_rfl
theorem S159 : szB P 159 = some 1 := by kernel_rfl
theorem Z159 : zeroL P 159 = some [.nilFunc] := by kernel_rfl
theorem C159 : concB P 159 = true := by kernel_rfl
theorem A160 : aggB P 160 = some false := by kernel_rfl
theorem S160 : szB P 160 = some 1 := by kernel_rfl
theorem Z160 : zeroL P 160 = some [.nilFunc] := by kernel_rfl
theorem C160 : concB P 160 = true := by kernel_rfl
theorem A161 : aggB P 161 = some false := by kernel_rfl
theorem S161 : szB P 161 = some 1 := by kernel_rfl
theorem Z161 : zeroL P 161 = some [.nilFunc] := by kernel_rfl
theorem C161 : concB P 161 = true := by kernel_rfl
theorem A162 : aggB P 162 = some false := by kernel_rfl
theorem S162 : szB P 162 = some 1 := by kernel_rfl
theorem Z162 : zeroL P 162 = some [.int .i64 0] := by kernel_rfl
theorem C162 : concB P 162 = true := by kernel_rfl
theorem I162 : P.underlying 162 = some (.int .i64) := by kernel_rfl
theorem A164 : aggB P 164 = some false := by kernel_rfl
theorem S164 : szB P 164 = some 1 := by kernel_rfl
theorem Z164 : zeroL P 164 = some [.nilFunc] := by kernel_rfl
theorem C164 : concB P 164 = true := by kernel_rfl
theorem A165 : aggB P 165 = some false := by kernel_rfl
theorem S165 : szB P 165 = some 1 := by kernel_rfl
theorem Z165 : zeroL P 165 = some [.nilFunc] := by kernel_rfl
theorem C165 : concB P 165 = true := by kernel_rfl
theorem A166 : aggB P 166 = some false := by kernel_rfl
theorem S166 : szB P 166 = some 1 := by kernel_rfl
theorem Z166 : zeroL P 166 = some [.nilFunc] := by kernel_rfl
theorem C166 : concB P 166 = true := by kernel_rfl
theorem A168 : aggB P 168 = some false := by kernel_rfl
theorem S168 : szB P 168 = some 1 := by kernel_rfl
theorem Z168 : zeroL P 168 = some [.nilFunc] := by kernel_rfl
theorem C168 : concB P 168 = true := by kernel_rfl
theorem A169 : aggB P 169 = some false := by kernel_rfl
theorem S169 : szB P 169 = some 1 := by kernel_rfl
theorem Z169 : zeroL P 169 = some [.int .u64 0] := by kernel_rfl
theorem C169 : concB P 169 = true := by kernel_rfl
theorem I169 : P.underlying 169 = some (.int .u64) := by kernel_rfl
theorem A170 : aggB P 170 = some false := by kernel_rfl
theorem S170 : szB P 170 = some 1 := by kernel_rfl
theorem Z170 : zeroL P 170 = some [.nilFunc] := by kernel_rfl
theorem C170 : concB P 170 = true := by kernel_rfl
theorem A171 : aggB P 171 = some false := by kernel_rfl
theorem S171 : szB P 171 = some 1 := by kernel_rfl
theorem Z171 : zeroL P 171 = some [.nilFunc] := by kernel_rfl
theorem C171 : concB P 171 = true := by kernel_rfl
theorem A172 : aggB P 172 = some false := by kernel_rfl
theorem S172 : szB P 172 = some 1 := by kernel_rfl
theorem Z172 : zeroL P 172 = some [.nilFunc] := by kernel_rfl
theorem C172 : concB P 172 = true := by kernel_rfl
theorem A173 : aggB P 173 = some false := by kernel_rfl
theorem S173 : szB P 173 = some 1 := by kernel_rfl
theorem Z173 : zeroL P 173 = some [.pointer none] := by kernel_rfl
theorem C173 : concB P 173 = true := by kernel_rfl
theorem I173 : P.underlying 173 = some (.pointer 3) := by kernel_rfl
theorem A174 : aggB P 174 = some false := by kernel_rfl
theorem S174 : szB P 174 = some 1 := by kernel_rfl
theorem Z174 : zeroL P 174 = some [.nilFunc] := by kernel_rfl
theorem C174 : concB P 174 = true := by kernel_rfl
theorem A175 : aggB P 175 = some false := by kernel_rfl
theorem S175 : szB P 175 = some 1 := by kernel_rfl
theorem Z175 : zeroL P 175 = some [.pointer none] := by kernel_rfl
theorem C175 : concB P 175 = true := by kernel_rfl
theorem I175 : P.underlying 175 = some (.pointer 169) := by kernel_rfl
theorem A177 : aggB P 177 = some false := by kernel_rfl
theorem S177 : szB P 177 = some 1 := by kernel_rfl
theorem Z177 : zeroL P 177 = some [.nilFunc] := by kernel_rfl
theorem C177 : concB P 177 = true := by kernel_rfl
theorem A178 : aggB P 178 = some false := by kernel_rfl
theorem S178 : szB P 178 = some 1 := by kernel_rfl
theorem Z178 : zeroL P 178 = some [.nilFunc] := by kernel_rfl
theorem C178 : concB P 178 = true := by kernel_rfl
theorem A179 : aggB P 179 = some true := by kernel_rfl
theorem S179 : szB P 179 = some 4 := by kernel_rfl
theorem Z179 : zeroL P 179 = some [.pointer none, .pointer none, .pointer none, .string ⟨#[]⟩] := by kernel_rfl
theorem F179_0 : fldB P 179 0 = some 0 := by kernel_rfl
theorem F179_1 : fldB P 179 1 = some 1 := by kernel_rfl
theorem F179_2 : fldB P 179 2 = some 2 := by kernel_rfl
theorem F179_3 : fldB P 179 3 = some 3 := by kernel_rfl
theorem B179 : strB P 179 = some ([.pointer none, .pointer none, .pointer none, .string ⟨#[]⟩], [(0, 1), (1, 1), (2, 1), (3, 1)]) := by kernel_rfl
theorem C179 : concB P 179 = true := by kernel_rfl
theorem A180 : aggB P 180 = some true := by kernel_rfl
theorem S180 : szB P 180 = some 4 := by kernel_rfl
theorem Z180 : zeroL P 180 = some [.pointer none, .pointer none, .pointer none, .string ⟨#[]⟩] := by kernel_rfl
theorem F180_0 : fldB P 180 0 = some 0 := by kernel_rfl
theorem F180_1 : fldB P 180 1 = some 1 := by kernel_rfl
theorem F180_2 : fldB P 180 2 = some 2 := by kernel_rfl
theorem F180_3 : fldB P 180 3 = some 3 := by kernel_rfl
theorem B180 : strB P 180 = some ([.pointer none, .pointer none, .pointer none, .string ⟨#[]⟩], [(0, 1), (1, 1), (2, 1), (3, 1)]) := by kernel_rfl
theorem C180 : concB P 180 = true := by kernel_rfl
theorem A181 : aggB P 181 = some true := by kernel_rfl
theorem S181 : szB P 181 = some 0 := by kernel_rfl
theorem Z181 : zeroL P 181 = some [] := by kernel_rfl
theorem Y181 : arrB P 181 = some (0, 1) := by kernel_rfl
theorem C181 : concB P 181 = true := by kernel_rfl
theorem A182 : aggB P 182 = some true := by kernel_rfl
theorem S182 : szB P 182 = some 0 := by kernel_rfl
theorem Z182 : zeroL P 182 = some [] := by kernel_rfl
theorem B182 : strB P 182 = some ([], [(0, 0)]) := by kernel_rfl
theorem C182 : concB P 182 = true := by kernel_rfl
theorem A183 : aggB P 183 = some true := by kernel_rfl
theorem S183 : szB P 183 = some 0 := by kernel_rfl
theorem Z183 : zeroL P 183 = some [] := by kernel_rfl
theorem B183 : strB P 183 = some ([], [(0, 0)]) := by kernel_rfl
theorem C183 : concB P 183 = true := by kernel_rfl
theorem A184 : aggB P 184 = some false := by kernel_rfl
theorem S184 : szB P 184 = some 1 := by kernel_rfl
theorem Z184 : zeroL P 184 = some [.int .u8 0] := by kernel_rfl
theorem C184 : concB P 184 = true := by kernel_rfl
theorem I184 : P.underlying 184 = some (.int .u8) := by kernel_rfl
theorem A185 : aggB P 185 = some false := by kernel_rfl
theorem S185 : szB P 185 = some 1 := by kernel_rfl
theorem Z185 : zeroL P 185 = some [.int .u8 0] := by kernel_rfl
theorem C185 : concB P 185 = true := by kernel_rfl
theorem I185 : P.underlying 185 = some (.int .u8) := by kernel_rfl
theorem A186 : aggB P 186 = some false := by kernel_rfl
theorem S186 : szB P 186 = some 1 := by kernel_rfl
theorem Z186 : zeroL P 186 = some [.nilFunc] := by kernel_rfl
theorem C186 : concB P 186 = true := by kernel_rfl
theorem A187 : aggB P 187 = some false := by kernel_rfl
theorem S187 : szB P 187 = some 1 := by kernel_rfl
theorem Z187 : zeroL P 187 = some [.pointer none] := by kernel_rfl
theorem C187 : concB P 187 = true := by kernel_rfl
theorem I187 : P.underlying 187 = some (.pointer 5) := by kernel_rfl
theorem A188 : aggB P 188 = some false := by kernel_rfl
theorem S188 : szB P 188 = some 1 := by kernel_rfl
theorem Z188 : zeroL P 188 = some [.int .i32 0] := by kernel_rfl
theorem C188 : concB P 188 = true := by kernel_rfl
theorem I188 : P.underlying 188 = some (.int .i32) := by kernel_rfl
theorem A189 : aggB P 189 = some false := by kernel_rfl
theorem S189 : szB P 189 = some 1 := by kernel_rfl
theorem Z189 : zeroL P 189 = some [.int .i32 0] := by kernel_rfl
theorem C189 : concB P 189 = true := by kernel_rfl
theorem I189 : P.underlying 189 = some (.int .i32) := by kernel_rfl
theorem A190 : aggB P 190 = some true := by kernel_rfl
theorem S190 : szB P 190 = some 11 := by kernel_rfl
theorem Z190 : zeroL P 190 = some [.int .u64 0, .int .u64 0, .int .u32 0, .int .u8 0, .int .u8 0, .int .u8 0, .int .u8 0, .nilFunc, .pointer none, .int .i32 0, .int .i32 0] := by kernel_rfl
theorem F190_0 : fldB P 190 0 = some 0 := by kernel_rfl
theorem F190_1 : fldB P 190 1 = some 1 := by kernel_rfl
theorem F190_2 : fldB P 190 2 = some 2 := by kernel_rfl
theorem F190_3 : fldB P 190 3 = some 3 := by kernel_rfl
theorem F190_4 : fldB P 190 4 = some 4 := by kernel_rfl
theorem F190_5 : fldB P 190 5 = some 5 := by kernel_rfl
theorem F190_6 : fldB P 190 6 = some 6 := by kernel_rfl
theorem F190_7 : fldB P 190 7 = some 7 := by kernel_rfl
theorem F190_8 : fldB P 190 8 = some 8 := by kernel_rfl
theorem F190_9 : fldB P 190 9 = some 9 := by kernel_rfl
theorem F190_10 : fldB P 190 10 = some 10 := by kernel_rfl
theorem B190 : strB P 190 = some ([.int .u64 0, .int .u64 0, .int .u32 0, .int .u8 0, .int .u8 0, .int .u8 0, .int .u8 0, .nilFunc, .pointer none, .int .i32 0, .int .i32 0], [(0, 1), (1, 1), (2, 1), (3, 1), (4, 1), (5, 1), (6, 1), (7, 1), (8, 1), (9, 1), (10, 1)]) := by kernel_rfl
theorem C190 : concB P 190 = true := by kernel_rfl
theorem A191 : aggB P 191 = some true := by kernel_rfl
theorem S191 : szB P 191 = some 11 := by kernel_rfl
theorem Z191 : zeroL P 191 = some [.int .u64 0, .int .u64 0, .int .u32 0, .int .u8 0, .int .u8 0, .int .u8 0, .int .u8 0, .nilFunc, .pointer none, .int .i32 0, .int .i32 0] := by kernel_rfl
theorem F191_0 : fldB P 191 0 = some 0 := by kernel_rfl
theorem F191_1 : fldB P 191 1 = some 1 := by kernel_rfl
theorem F191_2 : fldB P 191 2 = some 2 := by kernel_rfl
theorem F191_3 : fldB P 191 3 = some 3 := by kernel_rfl
theorem F191_4 : fldB P 191 4 = some 4 := by kernel_rfl
theorem F191_5 : fldB P 191 5 = some 5 := by kernel_rfl
theorem F191_6 : fldB P 191 6 = some 6 := by kernel_rfl
theorem F191_7 : fldB P 191 7 = some 7 := by kernel_rfl
theorem F191_8 : fldB P 191 8 = some 8 := by kernel_rfl
theorem F191_9 : fldB P 191 9 = some 9 := by kernel_rfl
theorem F191_10 : fldB P 191 10 = some 10 := by kernel_rfl
theorem B191 : strB P 191 = some ([.int .u64 0, .int .u64 0, .int .u32 0, .int .u8 0, .int .u8 0, .int .u8 0, .int .u8 0, .nilFunc, .pointer none, .int .i32 0, .int .i32 0], [(0, 1), (1, 1), (2, 1), (3, 1), (4, 1), (5, 1), (6, 1), (7, 1), (8, 1), (9, 1), (10, 1)]) := by kernel_rfl
theorem C191 : concB P 191 = true := by kernel_rfl
theorem A192 : aggB P 192 = some true := by kernel_rfl
theorem S192 : szB P 192 = some 2 := by kernel_rfl
theorem Z192 : zeroL P 192 = some [.string ⟨#[]⟩, .int .u8 0] := by kernel_rfl
theorem F192_0 : fldB P 192 0 = some 0 := by kernel_rfl
theorem F192_1 : fldB P 192 1 = some 1 := by kernel_rfl
theorem B192 : strB P 192 = some ([.string ⟨#[]⟩, .int .u8 0], [(0, 1), (1, 1)]) := by kernel_rfl
theorem C192 : concB P 192 = true := by kernel_rfl
theorem A193 : aggB P 193 = some true := by kernel_rfl
theorem S193 : szB P 193 = some 2 := by kernel_rfl
theorem Z193 : zeroL P 193 = some [.string ⟨#[]⟩, .int .u8 0] := by kernel_rfl
theorem F193_0 : fldB P 193 0 = some 0 := by kernel_rfl
theorem F193_1 : fldB P 193 1 = some 1 := by kernel_rfl
theorem B193 : strB P 193 = some ([.string ⟨#[]⟩, .int .u8 0], [(0, 1), (1, 1)]) := by kernel_rfl
theorem C193 : concB P 193 = true := by kernel_rfl
theorem N2 : fnB P 2 = true := by kernel_rfl
theorem N3 : fnB P 3 = true := by kernel_rfl
theorem N4 : fnB P 4 = true := by kernel_rfl
theorem N5 : fnB P 5 = true := by kernel_rfl
theorem N6 : fnB P 6 = true := by kernel_rfl
theorem N7 : fnB P 7 = true := by kernel_rfl
theorem N8 : fnB P 8 = true := by kernel_rfl
theorem N9 : fnB P 9 = true := by kernel_rfl
theorem N10 : fnB P 10 = true := by kernel_rfl
theorem N11 : fnB P 11 = true := by kernel_rfl
theorem N12 : fnB P 12 = true := by kernel_rfl
theorem N13 : fnB P 13 = true := by kernel_rfl
theorem N14 : fnB P 14 = true := by kernel_rfl
theorem N15 : fnB P 15 = true := by kernel_rfl
theorem N16 : fnB P 16 = true := by kernel_rfl
theorem N17 : fnB P 17 = true := by kernel_rfl
theorem N18 : fnB P 18 = true := by kernel_rfl
theorem N19 : fnB P 19 = true := by kernel_rfl
theorem N20 : fnB P 20 = true := by kernel_rfl
theorem N21 : fnB P 21 = true := by kernel_rfl
theorem N22 : fnB P 22 = true := by kernel_rfl
theorem N23 : fnB P 23 = true := by kernel_rfl
theorem N24 : fnB P 24 = true := by kernel_rfl
theorem N25 : fnB P 25 = true := by kernel_rfl
theorem N26 : fnB P 26 = true := by kernel_rfl
theorem N27 : fnB P 27 = true := by kernel_rfl
theorem N28 : fnB P 28 = true := by kernel_rfl
theorem N29 : fnB P 29 = true := by kernel_rfl
theorem N30 : fnB P 30 = true := by kernel_rfl
theorem N31 : fnB P 31 = true := by kernel_rfl
theorem N32 : fnB P 32 = true := by kernel_rfl
theorem N33 : fnB P 33 = true := by kernel_rfl
theorem N34 : fnB P 34 = true := by kernel_rfl
theorem N35 : fnB P 35 = true := by kernel_rfl
theorem N36 : fnB P 36 = true := by kernel_rfl
theorem N37 : fnB P 37 = true := by kernel_rfl
theorem N38 : fnB P 38 = true := by kernel_rfl
theorem N39 : fnB P 39 = true := by kernel_rfl
theorem N40 : fnB P 40 = true := by kernel_rfl
theorem N41 : fnB P 41 = true := by kernel_rfl
theorem N42 : fnB P 42 = true := by kernel_rfl
theorem N43 : fnB P 43 = true := by kernel_rfl
theorem N44 : fnB P 44 = true := by kernel_rfl
theorem N45 : fnB P 45 = true := by kernel_rfl
theorem N46 : fnB P 46 = true := by kernel_rfl
theorem N47 : fnB P 47 = true := by kernel_rfl
theorem N48 : fnB P 48 = true := by kernel_rfl
theorem N49 : fnB P 49 = true := by kernel_rfl
theorem N50 : fnB P 50 = true := by kernel_rfl
theorem N51 : fnB P 51 = true := by kernel_rfl
theorem N52 : fnB P 52 = true := by kernel_rfl
theorem N53 : fnB P 53 = true := by kernel_rfl
theorem N54 : fnB P 54 = true := by kernel_rfl
theorem N55 : fnB P 55 = true := by kernel_rfl
theorem N56 : fnB P 56 = true := by kernel_rfl
theorem N57 : fnB P 57 = true := by kernel_rfl
theorem N58 : fnB P 58 = true := by kernel_rfl
theorem N59 : fnB P 59 = true := by kernel_rfl
theorem N60 : fnB P 60 = true := by kernel_rfl
theorem N61 : fnB P 61 = true := by kernel_rfl
theorem N62 : fnB P 62 = true := by kernel_rfl
theorem N63 : fnB P 63 = true := by kernel_rfl
theorem N64 : fnB P 64 = true := by kernel_rfl
theorem N65 : fnB P 65 = true := by kernel_rfl
theorem N66 : fnB P 66 = true := by kernel_rfl
theorem N67 : fnB P 67 = true := by kernel_rfl
theorem N68 : fnB P 68 = true := by kernel_rfl
theorem N69 : fnB P 69 = true := by kernel_rfl
theorem N70 : fnB P 70 = true := by kernel_rfl
theorem N71 : fnB P 71 = true := by kernel_rfl
theorem N72 : fnB P 72 = true := by kernel_rfl
theorem N73 : fnB P 73 = true := by kernel_rfl
theorem N74 : fnB P 74 = true := by kernel_rfl
theorem N75 : fnB P 75 = true := by kernel_rfl
theorem N76 : fnB P 76 = true := by kernel_rfl
theorem N77 : fnB P 77 = true := by kernel_rfl
theorem N81 : fnB P 81 = true := by kernel_rfl
theorem N82 : fnB P 82 = true := by kernel_rfl
theorem N92 : fnB P 92 = true := by kernel_rfl
theorem N93 : fnB P 93 = true := by kernel_rfl
theorem N94 : fnB P 94 = true := by kernel_rfl
theorem N95 : fnB P 95 = true := by kernel_rfl
theorem N96 : fnB P 96 = true := by kernel_rfl
theorem N97 : fnB P 97 = true := by kernel_rfl
theorem N98 : fnB P 98 = true := by kernel_rfl
theorem N99 : fnB P 99 = true := by kernel_rfl
theorem N100 : fnB P 100 = true := by kernel_rfl
theorem N101 : fnB P 101 = true := by kernel_rfl
theorem N102 : fnB P 102 = true := by kernel_rfl
theorem N103 : fnB P 103 = true := by kernel_rfl
theorem N104 : fnB P 104 = true := by kernel_rfl
theorem N105 : fnB P 105 = true := by kernel_rfl
theorem N106 : fnB P 106 = true := by kernel_rfl
theorem N107 : fnB P 107 = true := by kernel_rfl
end Go.Proofs.Ytllpfpdanonhkaa.Tb
