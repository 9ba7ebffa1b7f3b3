/- A byte's bits, a word of bytes. -/
import Derived.Test.YtbflnpkgbpckfaaGreatBase
namespace Go.Proofs.YtbflnpkgbpckfaaGreat
open Go.RowKit
def byteBits (b : Int) : List Int := [14 + b / 128 % 2, 14 + b / 64 % 2, 14 + b / 32 % 2, 14 + b / 16 % 2, 14 + b / 8 % 2, 14 + b / 4 % 2, 14 + b / 2 % 2, 14 + b % 2]
def wordL (bs : List Int) : List Int := bs.flatMap byteBits
theorem byteBits_len (x : Int) : (byteBits x).length = 8 := rfl
theorem wordL_len (l : List Int) : (wordL l).length = 8 * l.length := by
  induction l with
  | nil => rfl
  | cons x l ih => unfold wordL at ih ⊢; rw [List.flatMap_cons, List.length_append, ih, byteBits_len, List.length_cons]; omega
end Go.Proofs.YtbflnpkgbpckfaaGreat
