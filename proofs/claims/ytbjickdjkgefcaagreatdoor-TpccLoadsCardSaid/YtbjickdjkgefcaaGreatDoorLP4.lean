/- works(): the data behind the order, as blocks (unspec.py wrote them from the evaluation). -/
import Derived.Test.YtbjickdjkgefcaaGreatDoorLO2
section
open Go Go.RowKit Go.Proofs.YtbjickdjkgefcaaGreatDoor.Vai
noncomputable section
namespace Go.Proofs.YtbjickdjkgefcaaGreatDoor
set_option maxRecDepth 100000
/- results: the last 2 blocks -/
/- value: .tuple #[.agg #[.int .i64 0, .slice (some ⟨39, 0, none⟩) 1 INF], .bool true] -/
def spW2 : List BSpec := [
  spG,
  .cells 60 2 [.pointer (some ⟨2, 0, none⟩), .map (some 12)] true,
  .cells 117 1 [.map (some 3)] true,
  .obj (.map [⟨.string ⟨#[104,111,117,115,101]⟩, .agg #[.string ⟨#[104,111,117,115,101]⟩, .slice (some ⟨4, 0, none⟩) 3 INF, .int .i64 1, .slice none 0 0], 0⟩, ⟨.string ⟨#[100,105,115,116,114,105,99,116]⟩, .agg #[.string ⟨#[100,105,115,116,114,105,99,116]⟩, .slice (some ⟨5, 0, none⟩) 5 INF, .int .i64 2, .slice none 0 0], 1⟩, ⟨.string ⟨#[99,117,115,116,111,109,101,114]⟩, .agg #[.string ⟨#[99,117,115,116,111,109,101,114]⟩, .slice (some ⟨6, 0, none⟩) 7 INF, .int .i64 3, .slice none 0 0], 2⟩, ⟨.string ⟨#[105,116,101,109]⟩, .agg #[.string ⟨#[105,116,101,109]⟩, .slice (some ⟨7, 0, none⟩) 2 INF, .int .i64 1, .slice none 0 0], 3⟩, ⟨.string ⟨#[115,116,111,99,107]⟩, .agg #[.string ⟨#[115,116,111,99,107]⟩, .slice (some ⟨8, 0, none⟩) 5 INF, .int .i64 2, .slice none 0 0], 4⟩, ⟨.string ⟨#[111,114,100,101,114,115]⟩, .agg #[.string ⟨#[111,114,100,101,114,115]⟩, .slice (some ⟨9, 0, none⟩) 6 INF, .int .i64 3, .slice none 0 0], 5⟩, ⟨.string ⟨#[102,114,101,115,104]⟩, .agg #[.string ⟨#[102,114,101,115,104]⟩, .slice (some ⟨10, 0, none⟩) 3 INF, .int .i64 3, .slice none 0 0], 6⟩, ⟨.string ⟨#[108,105,110,101]⟩, .agg #[.string ⟨#[108,105,110,101]⟩, .slice (some ⟨11, 0, none⟩) 8 INF, .int .i64 4, .slice none 0 0], 7⟩] 8),
  .cells 38 2 [.string ⟨#[119]⟩, .int .i64 2, .string ⟨#[116,97,120]⟩, .int .i64 2, .string ⟨#[121,116,100]⟩, .int .i64 2] true,
  .cells 38 2 [.string ⟨#[119]⟩, .int .i64 2, .string ⟨#[100]⟩, .int .i64 2, .string ⟨#[116,97,120]⟩, .int .i64 2, .string ⟨#[121,116,100]⟩, .int .i64 2, .string ⟨#[110,101,120,116]⟩, .int .i64 2] true,
  .cells 38 2 [.string ⟨#[119]⟩, .int .i64 2, .string ⟨#[100]⟩, .int .i64 2, .string ⟨#[99]⟩, .int .i64 2, .string ⟨#[111,102,102]⟩, .int .i64 2, .string ⟨#[98,97,108,97,110,99,101]⟩, .int .i64 2, .string ⟨#[112,97,105,100]⟩, .int .i64 2, .string ⟨#[116,105,109,101,115]⟩, .int .i64 2] true,
  .cells 38 2 [.string ⟨#[105]⟩, .int .i64 2, .string ⟨#[112,114,105,99,101]⟩, .int .i64 2] true,
  .cells 38 2 [.string ⟨#[119]⟩, .int .i64 2, .string ⟨#[105]⟩, .int .i64 2, .string ⟨#[108,101,102,116]⟩, .int .i64 2, .string ⟨#[115,111,108,100]⟩, .int .i64 2, .string ⟨#[111,114,100,101,114,115]⟩, .int .i64 2] true,
  .cells 38 2 [.string ⟨#[119]⟩, .int .i64 2, .string ⟨#[100]⟩, .int .i64 2, .string ⟨#[111]⟩, .int .i64 2, .string ⟨#[99]⟩, .int .i64 2, .string ⟨#[108,105,110,101,115]⟩, .int .i64 2, .string ⟨#[99,97,114,114,105,101,114]⟩, .int .i64 2] true,
  .cells 38 2 [.string ⟨#[119]⟩, .int .i64 2, .string ⟨#[100]⟩, .int .i64 2, .string ⟨#[111]⟩, .int .i64 2] true,
  .cells 38 2 [.string ⟨#[119]⟩, .int .i64 2, .string ⟨#[100]⟩, .int .i64 2, .string ⟨#[111]⟩, .int .i64 2, .string ⟨#[110]⟩, .int .i64 2, .string ⟨#[105]⟩, .int .i64 2, .string ⟨#[102,114,111,109]⟩, .int .i64 2, .string ⟨#[109,97,110,121]⟩, .int .i64 2, .string ⟨#[97,109,111,117,110,116]⟩, .int .i64 2] true,
  .obj (.map [⟨.string ⟨#[104,111,117,115,101]⟩, .agg #[.string ⟨#[104,111,117,115,101]⟩, .slice (some ⟨13, 0, none⟩) 3 INF, .int .i64 1, .slice none 0 0, .slice (some ⟨14, 0, none⟩) 1 INF], 0⟩, ⟨.string ⟨#[100,105,115,116,114,105,99,116]⟩, .agg #[.string ⟨#[100,105,115,116,114,105,99,116]⟩, .slice (some ⟨16, 0, none⟩) 5 INF, .int .i64 2, .slice none 0 0, .slice (some ⟨17, 0, none⟩) 1 INF], 1⟩, ⟨.string ⟨#[99,117,115,116,111,109,101,114]⟩, .agg #[.string ⟨#[99,117,115,116,111,109,101,114]⟩, .slice (some ⟨19, 0, none⟩) 7 INF, .int .i64 3, .slice none 0 0, .slice (some ⟨20, 0, none⟩) 1 INF], 2⟩, ⟨.string ⟨#[105,116,101,109]⟩, .agg #[.string ⟨#[105,116,101,109]⟩, .slice (some ⟨22, 0, none⟩) 2 INF, .int .i64 1, .slice none 0 0, .slice (some ⟨23, 0, none⟩) 2 INF], 3⟩, ⟨.string ⟨#[115,116,111,99,107]⟩, .agg #[.string ⟨#[115,116,111,99,107]⟩, .slice (some ⟨26, 0, none⟩) 5 INF, .int .i64 2, .slice none 0 0, .slice (some ⟨27, 0, none⟩) 2 INF], 4⟩, ⟨.string ⟨#[111,114,100,101,114,115]⟩, .agg #[.string ⟨#[111,114,100,101,114,115]⟩, .slice (some ⟨30, 0, none⟩) 6 INF, .int .i64 3, .slice none 0 0, .slice (some ⟨31, 0, none⟩) 1 INF], 5⟩, ⟨.string ⟨#[102,114,101,115,104]⟩, .agg #[.string ⟨#[102,114,101,115,104]⟩, .slice (some ⟨33, 0, none⟩) 3 INF, .int .i64 3, .slice none 0 0, .slice (some ⟨34, 0, none⟩) 1 INF], 6⟩, ⟨.string ⟨#[108,105,110,101]⟩, .agg #[.string ⟨#[108,105,110,101]⟩, .slice (some ⟨36, 0, none⟩) 8 INF, .int .i64 4, .slice none 0 0, .slice (some ⟨37, 0, none⟩) 1 INF], 7⟩] 8),
  .cells 38 2 [.string ⟨#[119]⟩, .int .i64 2, .string ⟨#[116,97,120]⟩, .int .i64 2, .string ⟨#[121,116,100]⟩, .int .i64 2] true,
  .cells 183 2 [.string ⟨#[3,128,0,0,0,0,0,0,1]⟩, .slice (some ⟨15, 0, none⟩) 3 INF] true,
  .cells 121 4 [.int .i64 2, .int .i64 1, .complex .f64 0 0, .string ⟨#[]⟩, .int .i64 2, .int .i64 100, .complex .f64 0 0, .string ⟨#[]⟩, .int .i64 2, .int .i64 0, .complex .f64 0 0, .string ⟨#[]⟩] true,
  .cells 38 2 [.string ⟨#[119]⟩, .int .i64 2, .string ⟨#[100]⟩, .int .i64 2, .string ⟨#[116,97,120]⟩, .int .i64 2, .string ⟨#[121,116,100]⟩, .int .i64 2, .string ⟨#[110,101,120,116]⟩, .int .i64 2] true,
  .cells 183 2 [.string ⟨#[3,128,0,0,0,0,0,0,1,3,128,0,0,0,0,0,0,1]⟩, .slice (some ⟨18, 0, none⟩) 5 INF] true,
  .cells 121 4 [.int .i64 2, .int .i64 1, .complex .f64 0 0, .string ⟨#[]⟩, .int .i64 2, .int .i64 1, .complex .f64 0 0, .string ⟨#[]⟩, .int .i64 2, .int .i64 50, .complex .f64 0 0, .string ⟨#[]⟩, .int .i64 2, .int .i64 0, .complex .f64 0 0, .string ⟨#[]⟩, .int .i64 2, .int .i64 2, .complex .f64 0 0, .string ⟨#[]⟩] true,
  .cells 38 2 [.string ⟨#[119]⟩, .int .i64 2, .string ⟨#[100]⟩, .int .i64 2, .string ⟨#[99]⟩, .int .i64 2, .string ⟨#[111,102,102]⟩, .int .i64 2, .string ⟨#[98,97,108,97,110,99,101]⟩, .int .i64 2, .string ⟨#[112,97,105,100]⟩, .int .i64 2, .string ⟨#[116,105,109,101,115]⟩, .int .i64 2] true,
  .cells 183 2 [.string ⟨#[3,128,0,0,0,0,0,0,1,3,128,0,0,0,0,0,0,1,3,128,0,0,0,0,0,0,1]⟩, .slice (some ⟨21, 0, none⟩) 7 INF] true,
  .cells 121 4 [.int .i64 2, .int .i64 1, .complex .f64 0 0, .string ⟨#[]⟩, .int .i64 2, .int .i64 1, .complex .f64 0 0, .string ⟨#[]⟩, .int .i64 2, .int .i64 1, .complex .f64 0 0, .string ⟨#[]⟩, .int .i64 2, .int .i64 100, .complex .f64 0 0, .string ⟨#[]⟩, .int .i64 2, .int .i64 0, .complex .f64 0 0, .string ⟨#[]⟩, .int .i64 2, .int .i64 0, .complex .f64 0 0, .string ⟨#[]⟩, .int .i64 2, .int .i64 0, .complex .f64 0 0, .string ⟨#[]⟩] true,
  .cells 38 2 [.string ⟨#[105]⟩, .int .i64 2, .string ⟨#[112,114,105,99,101]⟩, .int .i64 2] true,
  .cells 183 2 [.string ⟨#[3,128,0,0,0,0,0,0,1]⟩, .slice (some ⟨24, 0, none⟩) 2 INF, .string ⟨#[3,128,0,0,0,0,0,0,2]⟩, .slice (some ⟨25, 0, none⟩) 2 INF] true,
  .cells 121 4 [.int .i64 2, .int .i64 1, .complex .f64 0 0, .string ⟨#[]⟩, .int .i64 2, .int .i64 101, .complex .f64 0 0, .string ⟨#[]⟩] true,
  .cells 121 4 [.int .i64 2, .int .i64 2, .complex .f64 0 0, .string ⟨#[]⟩, .int .i64 2, .int .i64 201, .complex .f64 0 0, .string ⟨#[]⟩] true,
  .cells 38 2 [.string ⟨#[119]⟩, .int .i64 2, .string ⟨#[105]⟩, .int .i64 2, .string ⟨#[108,101,102,116]⟩, .int .i64 2, .string ⟨#[115,111,108,100]⟩, .int .i64 2, .string ⟨#[111,114,100,101,114,115]⟩, .int .i64 2] true,
  .cells 183 2 [.string ⟨#[3,128,0,0,0,0,0,0,1,3,128,0,0,0,0,0,0,1]⟩, .slice (some ⟨28, 0, none⟩) 5 INF, .string ⟨#[3,128,0,0,0,0,0,0,1,3,128,0,0,0,0,0,0,2]⟩, .slice (some ⟨29, 0, none⟩) 5 INF] true,
  .cells 121 4 [.int .i64 2, .int .i64 1, .complex .f64 0 0, .string ⟨#[]⟩, .int .i64 2, .int .i64 1, .complex .f64 0 0, .string ⟨#[]⟩, .int .i64 2, .int .i64 50, .complex .f64 0 0, .string ⟨#[]⟩, .int .i64 2, .int .i64 0, .complex .f64 0 0, .string ⟨#[]⟩, .int .i64 2, .int .i64 0, .complex .f64 0 0, .string ⟨#[]⟩] true,
  .cells 121 4 [.int .i64 2, .int .i64 1, .complex .f64 0 0, .string ⟨#[]⟩, .int .i64 2, .int .i64 2, .complex .f64 0 0, .string ⟨#[]⟩, .int .i64 2, .int .i64 47, .complex .f64 0 0, .string ⟨#[]⟩, .int .i64 2, .int .i64 3, .complex .f64 0 0, .string ⟨#[]⟩, .int .i64 2, .int .i64 1, .complex .f64 0 0, .string ⟨#[]⟩] true,
  .cells 38 2 [.string ⟨#[119]⟩, .int .i64 2, .string ⟨#[100]⟩, .int .i64 2, .string ⟨#[111]⟩, .int .i64 2, .string ⟨#[99]⟩, .int .i64 2, .string ⟨#[108,105,110,101,115]⟩, .int .i64 2, .string ⟨#[99,97,114,114,105,101,114]⟩, .int .i64 2] true,
  .cells 183 2 [.string ⟨#[3,128,0,0,0,0,0,0,1,3,128,0,0,0,0,0,0,1,3,128,0,0,0,0,0,0,1]⟩, .slice (some ⟨32, 0, none⟩) 6 INF] true,
  .cells 121 4 [.int .i64 2, .int .i64 1, .complex .f64 0 0, .string ⟨#[]⟩, .int .i64 2, .int .i64 1, .complex .f64 0 0, .string ⟨#[]⟩, .int .i64 2, .int .i64 1, .complex .f64 0 0, .string ⟨#[]⟩, .int .i64 2, .int .i64 1, .complex .f64 0 0, .string ⟨#[]⟩, .int .i64 2, .int .i64 1, .complex .f64 0 0, .string ⟨#[]⟩, .int .i64 2, .int .i64 0, .complex .f64 0 0, .string ⟨#[]⟩] true,
  .cells 38 2 [.string ⟨#[119]⟩, .int .i64 2, .string ⟨#[100]⟩, .int .i64 2, .string ⟨#[111]⟩, .int .i64 2] true,
  .cells 183 2 [.string ⟨#[3,128,0,0,0,0,0,0,1,3,128,0,0,0,0,0,0,1,3,128,0,0,0,0,0,0,1]⟩, .slice (some ⟨35, 0, none⟩) 3 INF] true,
  .cells 121 4 [.int .i64 2, .int .i64 1, .complex .f64 0 0, .string ⟨#[]⟩, .int .i64 2, .int .i64 1, .complex .f64 0 0, .string ⟨#[]⟩, .int .i64 2, .int .i64 1, .complex .f64 0 0, .string ⟨#[]⟩] true,
  .cells 38 2 [.string ⟨#[119]⟩, .int .i64 2, .string ⟨#[100]⟩, .int .i64 2, .string ⟨#[111]⟩, .int .i64 2, .string ⟨#[110]⟩, .int .i64 2, .string ⟨#[105]⟩, .int .i64 2, .string ⟨#[102,114,111,109]⟩, .int .i64 2, .string ⟨#[109,97,110,121]⟩, .int .i64 2, .string ⟨#[97,109,111,117,110,116]⟩, .int .i64 2] true,
  .cells 183 2 [.string ⟨#[3,128,0,0,0,0,0,0,1,3,128,0,0,0,0,0,0,1,3,128,0,0,0,0,0,0,1,3,128,0,0,0,0,0,0,1]⟩, .slice (some ⟨38, 0, none⟩) 8 INF] true,
  .cells 121 4 [.int .i64 2, .int .i64 1, .complex .f64 0 0, .string ⟨#[]⟩, .int .i64 2, .int .i64 1, .complex .f64 0 0, .string ⟨#[]⟩, .int .i64 2, .int .i64 1, .complex .f64 0 0, .string ⟨#[]⟩, .int .i64 2, .int .i64 1, .complex .f64 0 0, .string ⟨#[]⟩, .int .i64 2, .int .i64 2, .complex .f64 0 0, .string ⟨#[]⟩, .int .i64 2, .int .i64 1, .complex .f64 0 0, .string ⟨#[]⟩, .int .i64 2, .int .i64 3, .complex .f64 0 0, .string ⟨#[]⟩, .int .i64 2, .int .i64 603, .complex .f64 0 0, .string ⟨#[]⟩] true,
  .cells 71 1 [.slice (some ⟨40, 0, none⟩) 2 INF] true,
  .cells 121 4 [.int .i64 2, .int .i64 1, .complex .f64 0 0, .string ⟨#[]⟩, .int .i64 2, .int .i64 606, .complex .f64 0 0, .string ⟨#[]⟩] true]
def spW2ids : List Nat := [0, 1, 2, 3, 4, 5, 6, 7, 8, 9, 10, 11, 12, 13, 14, 15, 16, 1127, 1124, 19, 20, 21, 22, 23, 24, 25, 26, 1505, 28, 1502, 30, 1268, 1265, 31, 1388, 1385, 32, 1683, 1680, 1694, 1692]
def spW2links : List (Nat × Nat × Bool) := [(1694, 0, false), (1, 0, false), (1, 1, false), (2, 0, false), (3, 0, true), (3, 1, true), (3, 2, true), (3, 3, true), (3, 4, true), (3, 5, true), (3, 6, true), (3, 7, true), (12, 0, true), (12, 1, true), (12, 2, true), (12, 3, true), (12, 4, true), (12, 5, true), (12, 6, true), (12, 7, true), (14, 1, false), (1127, 1, false), (20, 1, false), (23, 1, false), (23, 3, false), (1505, 1, false), (1505, 3, false), (1268, 1, false), (1388, 1, false), (1683, 1, false)]
end Go.Proofs.YtbjickdjkgefcaaGreatDoor
end
end
section
open Go Go.RowKit Go.Proofs.YtbjickdjkgefcaaGreatDoor.Vai
noncomputable section
namespace Go.Proofs.YtbjickdjkgefcaaGreatDoor
set_option maxRecDepth 100000
/- results: the last 2 blocks -/
/- value: .tuple #[.agg #[.int .i64 0, .slice (some ⟨38, 0, none⟩) 1 INF], .bool true] -/
def spW3 : List BSpec := [
  spG,
  .cells 60 2 [.pointer (some ⟨2, 0, none⟩), .map (some 12)] true,
  .cells 117 1 [.map (some 3)] true,
  .obj (.map [⟨.string ⟨#[104,111,117,115,101]⟩, .agg #[.string ⟨#[104,111,117,115,101]⟩, .slice (some ⟨4, 0, none⟩) 3 INF, .int .i64 1, .slice none 0 0], 0⟩, ⟨.string ⟨#[100,105,115,116,114,105,99,116]⟩, .agg #[.string ⟨#[100,105,115,116,114,105,99,116]⟩, .slice (some ⟨5, 0, none⟩) 5 INF, .int .i64 2, .slice none 0 0], 1⟩, ⟨.string ⟨#[99,117,115,116,111,109,101,114]⟩, .agg #[.string ⟨#[99,117,115,116,111,109,101,114]⟩, .slice (some ⟨6, 0, none⟩) 7 INF, .int .i64 3, .slice none 0 0], 2⟩, ⟨.string ⟨#[105,116,101,109]⟩, .agg #[.string ⟨#[105,116,101,109]⟩, .slice (some ⟨7, 0, none⟩) 2 INF, .int .i64 1, .slice none 0 0], 3⟩, ⟨.string ⟨#[115,116,111,99,107]⟩, .agg #[.string ⟨#[115,116,111,99,107]⟩, .slice (some ⟨8, 0, none⟩) 5 INF, .int .i64 2, .slice none 0 0], 4⟩, ⟨.string ⟨#[111,114,100,101,114,115]⟩, .agg #[.string ⟨#[111,114,100,101,114,115]⟩, .slice (some ⟨9, 0, none⟩) 6 INF, .int .i64 3, .slice none 0 0], 5⟩, ⟨.string ⟨#[102,114,101,115,104]⟩, .agg #[.string ⟨#[102,114,101,115,104]⟩, .slice (some ⟨10, 0, none⟩) 3 INF, .int .i64 3, .slice none 0 0], 6⟩, ⟨.string ⟨#[108,105,110,101]⟩, .agg #[.string ⟨#[108,105,110,101]⟩, .slice (some ⟨11, 0, none⟩) 8 INF, .int .i64 4, .slice none 0 0], 7⟩] 8),
  .cells 38 2 [.string ⟨#[119]⟩, .int .i64 2, .string ⟨#[116,97,120]⟩, .int .i64 2, .string ⟨#[121,116,100]⟩, .int .i64 2] true,
  .cells 38 2 [.string ⟨#[119]⟩, .int .i64 2, .string ⟨#[100]⟩, .int .i64 2, .string ⟨#[116,97,120]⟩, .int .i64 2, .string ⟨#[121,116,100]⟩, .int .i64 2, .string ⟨#[110,101,120,116]⟩, .int .i64 2] true,
  .cells 38 2 [.string ⟨#[119]⟩, .int .i64 2, .string ⟨#[100]⟩, .int .i64 2, .string ⟨#[99]⟩, .int .i64 2, .string ⟨#[111,102,102]⟩, .int .i64 2, .string ⟨#[98,97,108,97,110,99,101]⟩, .int .i64 2, .string ⟨#[112,97,105,100]⟩, .int .i64 2, .string ⟨#[116,105,109,101,115]⟩, .int .i64 2] true,
  .cells 38 2 [.string ⟨#[105]⟩, .int .i64 2, .string ⟨#[112,114,105,99,101]⟩, .int .i64 2] true,
  .cells 38 2 [.string ⟨#[119]⟩, .int .i64 2, .string ⟨#[105]⟩, .int .i64 2, .string ⟨#[108,101,102,116]⟩, .int .i64 2, .string ⟨#[115,111,108,100]⟩, .int .i64 2, .string ⟨#[111,114,100,101,114,115]⟩, .int .i64 2] true,
  .cells 38 2 [.string ⟨#[119]⟩, .int .i64 2, .string ⟨#[100]⟩, .int .i64 2, .string ⟨#[111]⟩, .int .i64 2, .string ⟨#[99]⟩, .int .i64 2, .string ⟨#[108,105,110,101,115]⟩, .int .i64 2, .string ⟨#[99,97,114,114,105,101,114]⟩, .int .i64 2] true,
  .cells 38 2 [.string ⟨#[119]⟩, .int .i64 2, .string ⟨#[100]⟩, .int .i64 2, .string ⟨#[111]⟩, .int .i64 2] true,
  .cells 38 2 [.string ⟨#[119]⟩, .int .i64 2, .string ⟨#[100]⟩, .int .i64 2, .string ⟨#[111]⟩, .int .i64 2, .string ⟨#[110]⟩, .int .i64 2, .string ⟨#[105]⟩, .int .i64 2, .string ⟨#[102,114,111,109]⟩, .int .i64 2, .string ⟨#[109,97,110,121]⟩, .int .i64 2, .string ⟨#[97,109,111,117,110,116]⟩, .int .i64 2] true,
  .obj (.map [⟨.string ⟨#[104,111,117,115,101]⟩, .agg #[.string ⟨#[104,111,117,115,101]⟩, .slice (some ⟨13, 0, none⟩) 3 INF, .int .i64 1, .slice none 0 0, .slice (some ⟨14, 0, none⟩) 1 INF], 0⟩, ⟨.string ⟨#[100,105,115,116,114,105,99,116]⟩, .agg #[.string ⟨#[100,105,115,116,114,105,99,116]⟩, .slice (some ⟨16, 0, none⟩) 5 INF, .int .i64 2, .slice none 0 0, .slice (some ⟨17, 0, none⟩) 1 INF], 1⟩, ⟨.string ⟨#[99,117,115,116,111,109,101,114]⟩, .agg #[.string ⟨#[99,117,115,116,111,109,101,114]⟩, .slice (some ⟨19, 0, none⟩) 7 INF, .int .i64 3, .slice none 0 0, .slice (some ⟨20, 0, none⟩) 1 INF], 2⟩, ⟨.string ⟨#[105,116,101,109]⟩, .agg #[.string ⟨#[105,116,101,109]⟩, .slice (some ⟨22, 0, none⟩) 2 INF, .int .i64 1, .slice none 0 0, .slice (some ⟨23, 0, none⟩) 2 INF], 3⟩, ⟨.string ⟨#[115,116,111,99,107]⟩, .agg #[.string ⟨#[115,116,111,99,107]⟩, .slice (some ⟨26, 0, none⟩) 5 INF, .int .i64 2, .slice none 0 0, .slice (some ⟨27, 0, none⟩) 2 INF], 4⟩, ⟨.string ⟨#[111,114,100,101,114,115]⟩, .agg #[.string ⟨#[111,114,100,101,114,115]⟩, .slice (some ⟨30, 0, none⟩) 6 INF, .int .i64 3, .slice none 0 0, .slice (some ⟨31, 0, none⟩) 1 INF], 5⟩, ⟨.string ⟨#[102,114,101,115,104]⟩, .agg #[.string ⟨#[102,114,101,115,104]⟩, .slice (some ⟨33, 0, none⟩) 3 INF, .int .i64 3, .slice none 0 0, .slice (some ⟨34, 0, none⟩) 0 INF], 6⟩, ⟨.string ⟨#[108,105,110,101]⟩, .agg #[.string ⟨#[108,105,110,101]⟩, .slice (some ⟨35, 0, none⟩) 8 INF, .int .i64 4, .slice none 0 0, .slice (some ⟨36, 0, none⟩) 1 INF], 7⟩] 8),
  .cells 38 2 [.string ⟨#[119]⟩, .int .i64 2, .string ⟨#[116,97,120]⟩, .int .i64 2, .string ⟨#[121,116,100]⟩, .int .i64 2] true,
  .cells 183 2 [.string ⟨#[3,128,0,0,0,0,0,0,1]⟩, .slice (some ⟨15, 0, none⟩) 3 INF] true,
  .cells 121 4 [.int .i64 2, .int .i64 1, .complex .f64 0 0, .string ⟨#[]⟩, .int .i64 2, .int .i64 100, .complex .f64 0 0, .string ⟨#[]⟩, .int .i64 2, .int .i64 0, .complex .f64 0 0, .string ⟨#[]⟩] true,
  .cells 38 2 [.string ⟨#[119]⟩, .int .i64 2, .string ⟨#[100]⟩, .int .i64 2, .string ⟨#[116,97,120]⟩, .int .i64 2, .string ⟨#[121,116,100]⟩, .int .i64 2, .string ⟨#[110,101,120,116]⟩, .int .i64 2] true,
  .cells 183 2 [.string ⟨#[3,128,0,0,0,0,0,0,1,3,128,0,0,0,0,0,0,1]⟩, .slice (some ⟨18, 0, none⟩) 5 INF] true,
  .cells 121 4 [.int .i64 2, .int .i64 1, .complex .f64 0 0, .string ⟨#[]⟩, .int .i64 2, .int .i64 1, .complex .f64 0 0, .string ⟨#[]⟩, .int .i64 2, .int .i64 50, .complex .f64 0 0, .string ⟨#[]⟩, .int .i64 2, .int .i64 0, .complex .f64 0 0, .string ⟨#[]⟩, .int .i64 2, .int .i64 2, .complex .f64 0 0, .string ⟨#[]⟩] true,
  .cells 38 2 [.string ⟨#[119]⟩, .int .i64 2, .string ⟨#[100]⟩, .int .i64 2, .string ⟨#[99]⟩, .int .i64 2, .string ⟨#[111,102,102]⟩, .int .i64 2, .string ⟨#[98,97,108,97,110,99,101]⟩, .int .i64 2, .string ⟨#[112,97,105,100]⟩, .int .i64 2, .string ⟨#[116,105,109,101,115]⟩, .int .i64 2] true,
  .cells 183 2 [.string ⟨#[3,128,0,0,0,0,0,0,1,3,128,0,0,0,0,0,0,1,3,128,0,0,0,0,0,0,1]⟩, .slice (some ⟨21, 0, none⟩) 7 INF] true,
  .cells 121 4 [.int .i64 2, .int .i64 1, .complex .f64 0 0, .string ⟨#[]⟩, .int .i64 2, .int .i64 1, .complex .f64 0 0, .string ⟨#[]⟩, .int .i64 2, .int .i64 1, .complex .f64 0 0, .string ⟨#[]⟩, .int .i64 2, .int .i64 100, .complex .f64 0 0, .string ⟨#[]⟩, .int .i64 2, .int .i64 603, .complex .f64 0 0, .string ⟨#[]⟩, .int .i64 2, .int .i64 0, .complex .f64 0 0, .string ⟨#[]⟩, .int .i64 2, .int .i64 0, .complex .f64 0 0, .string ⟨#[]⟩] true,
  .cells 38 2 [.string ⟨#[105]⟩, .int .i64 2, .string ⟨#[112,114,105,99,101]⟩, .int .i64 2] true,
  .cells 183 2 [.string ⟨#[3,128,0,0,0,0,0,0,1]⟩, .slice (some ⟨24, 0, none⟩) 2 INF, .string ⟨#[3,128,0,0,0,0,0,0,2]⟩, .slice (some ⟨25, 0, none⟩) 2 INF] true,
  .cells 121 4 [.int .i64 2, .int .i64 1, .complex .f64 0 0, .string ⟨#[]⟩, .int .i64 2, .int .i64 101, .complex .f64 0 0, .string ⟨#[]⟩] true,
  .cells 121 4 [.int .i64 2, .int .i64 2, .complex .f64 0 0, .string ⟨#[]⟩, .int .i64 2, .int .i64 201, .complex .f64 0 0, .string ⟨#[]⟩] true,
  .cells 38 2 [.string ⟨#[119]⟩, .int .i64 2, .string ⟨#[105]⟩, .int .i64 2, .string ⟨#[108,101,102,116]⟩, .int .i64 2, .string ⟨#[115,111,108,100]⟩, .int .i64 2, .string ⟨#[111,114,100,101,114,115]⟩, .int .i64 2] true,
  .cells 183 2 [.string ⟨#[3,128,0,0,0,0,0,0,1,3,128,0,0,0,0,0,0,1]⟩, .slice (some ⟨28, 0, none⟩) 5 INF, .string ⟨#[3,128,0,0,0,0,0,0,1,3,128,0,0,0,0,0,0,2]⟩, .slice (some ⟨29, 0, none⟩) 5 INF] true,
  .cells 121 4 [.int .i64 2, .int .i64 1, .complex .f64 0 0, .string ⟨#[]⟩, .int .i64 2, .int .i64 1, .complex .f64 0 0, .string ⟨#[]⟩, .int .i64 2, .int .i64 50, .complex .f64 0 0, .string ⟨#[]⟩, .int .i64 2, .int .i64 0, .complex .f64 0 0, .string ⟨#[]⟩, .int .i64 2, .int .i64 0, .complex .f64 0 0, .string ⟨#[]⟩] true,
  .cells 121 4 [.int .i64 2, .int .i64 1, .complex .f64 0 0, .string ⟨#[]⟩, .int .i64 2, .int .i64 2, .complex .f64 0 0, .string ⟨#[]⟩, .int .i64 2, .int .i64 47, .complex .f64 0 0, .string ⟨#[]⟩, .int .i64 2, .int .i64 3, .complex .f64 0 0, .string ⟨#[]⟩, .int .i64 2, .int .i64 1, .complex .f64 0 0, .string ⟨#[]⟩] true,
  .cells 38 2 [.string ⟨#[119]⟩, .int .i64 2, .string ⟨#[100]⟩, .int .i64 2, .string ⟨#[111]⟩, .int .i64 2, .string ⟨#[99]⟩, .int .i64 2, .string ⟨#[108,105,110,101,115]⟩, .int .i64 2, .string ⟨#[99,97,114,114,105,101,114]⟩, .int .i64 2] true,
  .cells 183 2 [.string ⟨#[3,128,0,0,0,0,0,0,1,3,128,0,0,0,0,0,0,1,3,128,0,0,0,0,0,0,1]⟩, .slice (some ⟨32, 0, none⟩) 6 INF] true,
  .cells 121 4 [.int .i64 2, .int .i64 1, .complex .f64 0 0, .string ⟨#[]⟩, .int .i64 2, .int .i64 1, .complex .f64 0 0, .string ⟨#[]⟩, .int .i64 2, .int .i64 1, .complex .f64 0 0, .string ⟨#[]⟩, .int .i64 2, .int .i64 1, .complex .f64 0 0, .string ⟨#[]⟩, .int .i64 2, .int .i64 1, .complex .f64 0 0, .string ⟨#[]⟩, .int .i64 2, .int .i64 7, .complex .f64 0 0, .string ⟨#[]⟩] true,
  .cells 38 2 [.string ⟨#[119]⟩, .int .i64 2, .string ⟨#[100]⟩, .int .i64 2, .string ⟨#[111]⟩, .int .i64 2] true,
  .cells 183 2 [.string ⟨#[]⟩, .slice none 0 0] true,
  .cells 38 2 [.string ⟨#[119]⟩, .int .i64 2, .string ⟨#[100]⟩, .int .i64 2, .string ⟨#[111]⟩, .int .i64 2, .string ⟨#[110]⟩, .int .i64 2, .string ⟨#[105]⟩, .int .i64 2, .string ⟨#[102,114,111,109]⟩, .int .i64 2, .string ⟨#[109,97,110,121]⟩, .int .i64 2, .string ⟨#[97,109,111,117,110,116]⟩, .int .i64 2] true,
  .cells 183 2 [.string ⟨#[3,128,0,0,0,0,0,0,1,3,128,0,0,0,0,0,0,1,3,128,0,0,0,0,0,0,1,3,128,0,0,0,0,0,0,1]⟩, .slice (some ⟨37, 0, none⟩) 8 INF] true,
  .cells 121 4 [.int .i64 2, .int .i64 1, .complex .f64 0 0, .string ⟨#[]⟩, .int .i64 2, .int .i64 1, .complex .f64 0 0, .string ⟨#[]⟩, .int .i64 2, .int .i64 1, .complex .f64 0 0, .string ⟨#[]⟩, .int .i64 2, .int .i64 1, .complex .f64 0 0, .string ⟨#[]⟩, .int .i64 2, .int .i64 2, .complex .f64 0 0, .string ⟨#[]⟩, .int .i64 2, .int .i64 1, .complex .f64 0 0, .string ⟨#[]⟩, .int .i64 2, .int .i64 3, .complex .f64 0 0, .string ⟨#[]⟩, .int .i64 2, .int .i64 603, .complex .f64 0 0, .string ⟨#[]⟩] true,
  .cells 71 1 [.slice (some ⟨39, 0, none⟩) 2 INF] true,
  .cells 121 4 [.int .i64 2, .int .i64 1, .complex .f64 0 0, .string ⟨#[]⟩, .int .i64 2, .int .i64 1, .complex .f64 0 0, .string ⟨#[]⟩] true]
def spW3ids : List Nat := [0, 1, 2, 3, 4, 5, 6, 7, 8, 9, 10, 11, 12, 13, 14, 15, 16, 17, 18, 19, 1200, 1197, 22, 23, 24, 25, 26, 27, 28, 29, 30, 1048, 1045, 33, 903, 36, 37, 38, 1211, 1209]
def spW3links : List (Nat × Nat × Bool) := [(1211, 0, false), (1, 0, false), (1, 1, false), (2, 0, false), (3, 0, true), (3, 1, true), (3, 2, true), (3, 3, true), (3, 4, true), (3, 5, true), (3, 6, true), (3, 7, true), (12, 0, true), (12, 1, true), (12, 2, true), (12, 3, true), (12, 4, true), (12, 5, true), (12, 6, true), (12, 7, true), (14, 1, false), (17, 1, false), (1200, 1, false), (23, 1, false), (23, 3, false), (27, 1, false), (27, 3, false), (1048, 1, false), (37, 1, false)]
def wCall2 : Option (Value × St) := aFunT Tryz.prog tb0 mkT 1000 100 (.func 50) [.pointer (some ⟨1, 0, none⟩), .string ⟨#[98, 114, 105, 110, 103]⟩, .slice (some ⟨39, 0, none⟩) 2 INF] (bSt (spW2.take 39 ++ [rowN [1, 7]]) [] 1)
def wCall3 : Option (Value × St) := aFunT Tryz.prog tb0 mkT 1000 100 (.func 50) [.pointer (some ⟨1, 0, none⟩), .string ⟨#[115, 116, 97, 116, 101]⟩, .slice (some ⟨38, 0, none⟩) 3 INF] (bSt (spW3.take 38 ++ [rowN [1, 1, 1]]) [] 1)
def wSound : Option (Value × St) := aFunT Tryz.prog tb0 mkT 1000 100 (.func 14) [.pointer (some ⟨1, 0, none⟩)] (bSt (spW3.take 38) [] 1)
end Go.Proofs.YtbjickdjkgefcaaGreatDoor
end
end
section
open Go Go.RowKit Go.Proofs.YtbjickdjkgefcaaGreatDoor.Vai
noncomputable section
namespace Go.Proofs.YtbjickdjkgefcaaGreatDoor
set_option linter.unusedVariables false
set_option linter.unusedSimpArgs false
set_option maxRecDepth 100000
def numB (l : List Int) : BSpec := .cells 2 1 (l.map (Value.int .i64)) true
def numsRun (l : List Int) : Option (Value × St) := aFunK Tryz.prog tb0 kn0 1000 100 (.func 51) [.slice (some ⟨0, 0, none⟩) l.length l.length] (bSt [numB l] [])
def blkOf (r : Option (Value × St)) : Nat := match r with
  | some (.slice (some a) _ _, _) => a.block
  | _ => 0
def numsOk (l : List Int) : Bool := runCheck (numsRun l) 1 (fun u => veq u (.slice (some ⟨blkOf (numsRun l), 0, none⟩) l.length INF)) [rowN l] [blkOf (numsRun l)] noTau [] && Nat.blt 0 (blkOf (numsRun l))
def sameNRun (l : List Int) : Option (Value × St) := aFunK Tryz.prog tb0 kn0 1000 100 (.func 52) [.slice (some ⟨0, 0, none⟩) l.length INF, .slice (some ⟨1, 0, none⟩) l.length INF] (bSt [rowN l, rowN l] [])
def sameNOk (l : List Int) : Bool := runCheck (sameNRun l) 2 isTrue [] [] noTau []
theorem nums1 : numsOk [1, 1, 1, 2, 1, 3] = true := by kernel_rfl
theorem nums2 : numsOk [1, 7] = true := by kernel_rfl
theorem nums3 : numsOk [1, 1, 1] = true := by kernel_rfl
theorem nums4 : numsOk [1, 606] = true := by kernel_rfl
theorem nums5 : numsOk [603] = true := by kernel_rfl
theorem nums6 : numsOk [2, 1, 3, 603] = true := by kernel_rfl
theorem sameN4 : sameNOk [1, 606] = true := by kernel_rfl
theorem sameN5 : sameNOk [603] = true := by kernel_rfl
theorem sameN6 : sameNOk [2, 1, 3, 603] = true := by kernel_rfl
/-- A row of whole numbers, wherever it lies. -/
def RowIs (w : World) (l : List Int) (v : Value) (t : Tgt) : Prop := (∃ cap, v = .slice (some ⟨t.blk, 0, none⟩) l.length cap ∧ 0 + cap * t.es = t.n) ∧ t.blk < w.heap.size ∧ ∀ φ : Emb, (rowN l).ok (Base.free w) φ w t
theorem vcells_plain (l : List Int) : ∀ v ∈ vcells l, plain v = true := by
  induction l with
  | nil => intro v h; simp [vcells] at h
  | cons n l ih =>
    intro v h
    simp only [vcells, List.mem_cons] at h
    rcases h with rfl | rfl | rfl | rfl | h
    · rfl
    · rfl
    · rfl
    · rfl
    · exact ih v h
theorem nums_run {l : List Int} (hl : numsOk l = true) (b : Nat) (w : World) (h : w.heap[b]? = some (.cells (l.map (Value.int .i64)).toArray 2 (0, 0))) :
    Calls Tryz.prog 51 #[.slice (some ⟨b, 0, none⟩) l.length l.length] w fun e w' => ∃ v t, e = .returned v ∧ RowIs w' l v t ∧ w.heap.size ≤ t.blk ∧ Below w.heap.size w w' := by
  unfold numsOk at hl
  rw [Bool.and_eq_true] at hl
  obtain ⟨hc, hpos⟩ := hl
  have hL : Lies w [numB l] [⟨b, l.length, 1⟩] (sg ⟨#[]⟩) := by
    refine ⟨rfl, by simp, fun k t sp ht hsp => ?_, fun k t ht => ?_⟩
    · match k with
      | 0 =>
        cases ht; cases hsp
        refine ⟨(fun e => by cases e), rfl, _, (0, 0), h, rfl, Nat.zero_le _, by simp, by simp, fun o val ho => ⟨val, by simpa using ho, ?_⟩⟩
        obtain ⟨n, hn⟩ : ∃ n, val = .int .i64 n := by
          have := List.mem_of_getElem? ho
          obtain ⟨n, _, rfl⟩ := List.mem_map.1 this
          exact ⟨n, rfl⟩
        subst hn; exact .int _ _
      | k + 1 => simp at ht
    · match k with
      | 0 => cases ht; exact lt_of_heap h
      | k + 1 => simp at ht
  refine (run_lock kn0_ok hL (facts := []) (fun g h => by cases h) (fun k sp h => by match k with | 0 => cases h; rfl | k + 1 => simp at h) (ng := 0) (Nat.zero_le _) (fun g t hg => absurd hg (Nat.not_lt_zero _)) (args := [.slice (some ⟨0, 0, none⟩) l.length l.length]) (cargs := [.slice (some ⟨b, 0, none⟩) l.length l.length]) (.cons _ _ _ _ (.slice 0 0 ⟨b, l.length, 1⟩ _ _ _ rfl (fun _ => rfl) (fun _ => by simp)) .nil) hc).mono ?_
  rintro e w' ⟨ψ, u, c, ts', rfl, hu, hvr, hr, hs, hb⟩
  obtain rfl := veq_sound _ _ hu
  have hl1 : ts'.length = 1 := hr.len
  cases hvr with
  | slice v o t l' c c' h' h1 h2 =>
    have e0 : ts'[0]? = some (ts'[0]'(by omega)) := List.getElem?_eq_getElem _
    obtain ⟨q1, q2⟩ := hr.at_ 0 _ _ rfl e0
    rw [h'] at q1
    have q1 := Option.some.inj q1
    rw [← q1] at e0 q2
    refine ⟨_, t, rfl, ⟨⟨_, rfl, h2 rfl⟩, hr.lt 0 _ e0, fun φ => cells_any (hr.ok 0 _ _ e0 rfl) (vcells_plain _) φ⟩, ?_, hb⟩
    rcases q2 with ⟨q3, _⟩ | ⟨_, q3⟩
    · have := blt_iff.1 hpos
      simp at q3; omega
    · exact Nat.le_of_not_lt fun hlt => q3 (by exact ⟨hlt, by simp⟩)
end Go.Proofs.YtbjickdjkgefcaaGreatDoor
end
end
