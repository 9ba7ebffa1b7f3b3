/-
  No cell of these rows narrows 'for every input' (looked for: loops, veiled, ifaces, maps, wideKeys, modest, calm, conditions, laid).
  DERIVED. THE GIVEN ROWS OF THIS SEAT. 8 by the template 'for every input the law returns true; each argument reads behind the call as it read before'; 0 by the template 'total and deterministic' (their statements: YtdlhhlebbnefkaaTotals.lean).
  GIVEN WITH THE SEED: the statements are not yours to turn. If you find one false, say at which input.
  Laid BY PROGRAM, IN A SANDBOX (cutbox-rows.mjs): the forced cells as the released guide's own fill.sh prints them over the translation 0b68d60223456c00… (all of the seat's roots in one cut). By AI agents, Wed Nov 11 2026. No macro, syntax, notation, axiom, sorry.
-/
import Derived.Test.YtdlhhlebbnefkaaChecked
import GoSem.Claim
import GoSem.ClaimJoined
import GoSem.ClaimMapViews
import Derived.JoinedTies
import Derived.KernelRfl
namespace Go.Proofs.Ytdlhhlebbnefkaa
/- THE CELL 'sum', in the pinned program and in every row, IS THE sha256 OF THE DUMP (.gsa) THAT YtdlhhlebbnefkaaProg.lean LOADS. Nothing in Lean hashes anything: it is a label: what it is worth is what the hold of that sum in a sandbox is worth. -/
noncomputable def Try.pinned : Pinned := { name := "ytdlhhlebbnefkaa", sum := "0b68d60223456c00efa70df3f96d66301751d71cf52774420a2fb4201b84bf48", checked := Try.checked }
namespace Rows
def none {H : Type} : Left H := { results := [], args := [] }

/-- 'lichenlaw8.Fifos': WHATEVER THE INPUT: true; the input reads as it did. -/
def fifosSpec : ChangeSpec := { name := "fifos", fn := fun _ => fun
  | [d] => { results := [.lit (.bool true)], args := [d] }
  | _ => none }
def fifosRow : OpenClaim := { program := "ytdlhhlebbnefkaa", sum := "0b68d60223456c00efa70df3f96d66301751d71cf52774420a2fb4201b84bf48", func := "lichen/lichenlaw8.Fifos", spec := "fifos", apart := false }
def FifosSaid : Prop := fifosRow.holds Try.pinned (OpenSpec.ofChange fifosSpec)

/-- ITS FALSE NEIGHBOUR: 'it returns false'. Refute it at one input. -/
def fifosWrong : ChangeSpec := { name := "fifos", fn := fun _ => fun
  | [d] => { results := [.lit (.bool false)], args := [d] }
  | _ => none }
def FifosWrongFalsely : Prop := fifosRow.holds Try.pinned (OpenSpec.ofChange fifosWrong)

/-- 'lichenlaw8.FifoRow': WHATEVER THE INPUT: true; the input reads as it did. -/
def fifoRowSpec : ChangeSpec := { name := "fifoRow", fn := fun _ => fun
  | [d1, d2] => { results := [.lit (.bool true)], args := [d1, d2] }
  | _ => none }
def fifoRowRow : OpenClaim := { program := "ytdlhhlebbnefkaa", sum := "0b68d60223456c00efa70df3f96d66301751d71cf52774420a2fb4201b84bf48", func := "lichen/lichenlaw8.FifoRow", spec := "fifoRow", apart := false }
def FifoRowSaid : Prop := fifoRowRow.holds Try.pinned (OpenSpec.ofChange fifoRowSpec)

/-- ITS FALSE NEIGHBOUR: 'it returns false'. Refute it at one input. -/
def fifoRowWrong : ChangeSpec := { name := "fifoRow", fn := fun _ => fun
  | [d1, d2] => { results := [.lit (.bool false)], args := [d1, d2] }
  | _ => none }
def FifoRowWrongFalsely : Prop := fifoRowRow.holds Try.pinned (OpenSpec.ofChange fifoRowWrong)

/-- 'lichenlaw8.FifoTurns': WHATEVER THE INPUT: true; the input reads as it did. -/
def fifoTurnsSpec : ChangeSpec := { name := "fifoTurns", fn := fun _ => fun
  | [d] => { results := [.lit (.bool true)], args := [d] }
  | _ => none }
def fifoTurnsRow : OpenClaim := { program := "ytdlhhlebbnefkaa", sum := "0b68d60223456c00efa70df3f96d66301751d71cf52774420a2fb4201b84bf48", func := "lichen/lichenlaw8.FifoTurns", spec := "fifoTurns", apart := false }
def FifoTurnsSaid : Prop := fifoTurnsRow.holds Try.pinned (OpenSpec.ofChange fifoTurnsSpec)

/-- ITS FALSE NEIGHBOUR: 'it returns false'. Refute it at one input. -/
def fifoTurnsWrong : ChangeSpec := { name := "fifoTurns", fn := fun _ => fun
  | [d] => { results := [.lit (.bool false)], args := [d] }
  | _ => none }
def FifoTurnsWrongFalsely : Prop := fifoTurnsRow.holds Try.pinned (OpenSpec.ofChange fifoTurnsWrong)

/-- 'lichenlaw12.Lines': WHATEVER THE INPUT: true; the input reads as it did. -/
def linesSpec : ChangeSpec := { name := "lines", fn := fun _ => fun
  | [d1, d2, d3, d4] => { results := [.lit (.bool true)], args := [d1, d2, d3, d4] }
  | _ => none }
def linesRow : OpenClaim := { program := "ytdlhhlebbnefkaa", sum := "0b68d60223456c00efa70df3f96d66301751d71cf52774420a2fb4201b84bf48", func := "lichen/lichenlaw12.Lines", spec := "lines", apart := false }
def LinesSaid : Prop := linesRow.holds Try.pinned (OpenSpec.ofChange linesSpec)

/-- ITS FALSE NEIGHBOUR: 'it returns false'. Refute it at one input. -/
def linesWrong : ChangeSpec := { name := "lines", fn := fun _ => fun
  | [d1, d2, d3, d4] => { results := [.lit (.bool false)], args := [d1, d2, d3, d4] }
  | _ => none }
def LinesWrongFalsely : Prop := linesRow.holds Try.pinned (OpenSpec.ofChange linesWrong)

/-- 'lichenlaw12.LineLast': WHATEVER THE INPUT: true; the input reads as it did. -/
def lineLastSpec : ChangeSpec := { name := "lineLast", fn := fun _ => fun
  | [d] => { results := [.lit (.bool true)], args := [d] }
  | _ => none }
def lineLastRow : OpenClaim := { program := "ytdlhhlebbnefkaa", sum := "0b68d60223456c00efa70df3f96d66301751d71cf52774420a2fb4201b84bf48", func := "lichen/lichenlaw12.LineLast", spec := "lineLast", apart := false }
def LineLastSaid : Prop := lineLastRow.holds Try.pinned (OpenSpec.ofChange lineLastSpec)

/-- ITS FALSE NEIGHBOUR: 'it returns false'. Refute it at one input. -/
def lineLastWrong : ChangeSpec := { name := "lineLast", fn := fun _ => fun
  | [d] => { results := [.lit (.bool false)], args := [d] }
  | _ => none }
def LineLastWrongFalsely : Prop := lineLastRow.holds Try.pinned (OpenSpec.ofChange lineLastWrong)

/-- 'lichenlaw12.LineForms': WHATEVER THE INPUT: true; the input reads as it did. -/
def lineFormsSpec : ChangeSpec := { name := "lineForms", fn := fun _ => fun
  | [d1, d2] => { results := [.lit (.bool true)], args := [d1, d2] }
  | _ => none }
def lineFormsRow : OpenClaim := { program := "ytdlhhlebbnefkaa", sum := "0b68d60223456c00efa70df3f96d66301751d71cf52774420a2fb4201b84bf48", func := "lichen/lichenlaw12.LineForms", spec := "lineForms", apart := false }
def LineFormsSaid : Prop := lineFormsRow.holds Try.pinned (OpenSpec.ofChange lineFormsSpec)

/-- ITS FALSE NEIGHBOUR: 'it returns false'. Refute it at one input. -/
def lineFormsWrong : ChangeSpec := { name := "lineForms", fn := fun _ => fun
  | [d1, d2] => { results := [.lit (.bool false)], args := [d1, d2] }
  | _ => none }
def LineFormsWrongFalsely : Prop := lineFormsRow.holds Try.pinned (OpenSpec.ofChange lineFormsWrong)

/-- 'lichenlaw12.LineRound': WHATEVER THE INPUT: true; the input reads as it did. -/
def lineRoundSpec : ChangeSpec := { name := "lineRound", fn := fun _ => fun
  | [d1, d2, d3] => { results := [.lit (.bool true)], args := [d1, d2, d3] }
  | _ => none }
def lineRoundRow : OpenClaim := { program := "ytdlhhlebbnefkaa", sum := "0b68d60223456c00efa70df3f96d66301751d71cf52774420a2fb4201b84bf48", func := "lichen/lichenlaw12.LineRound", spec := "lineRound", apart := false }
def LineRoundSaid : Prop := lineRoundRow.holds Try.pinned (OpenSpec.ofChange lineRoundSpec)

/-- ITS FALSE NEIGHBOUR: 'it returns false'. Refute it at one input. -/
def lineRoundWrong : ChangeSpec := { name := "lineRound", fn := fun _ => fun
  | [d1, d2, d3] => { results := [.lit (.bool false)], args := [d1, d2, d3] }
  | _ => none }
def LineRoundWrongFalsely : Prop := lineRoundRow.holds Try.pinned (OpenSpec.ofChange lineRoundWrong)

/-- 'lichenlaw12.LineSame': WHATEVER THE INPUT: true; the input reads as it did. -/
def lineSameSpec : ChangeSpec := { name := "lineSame", fn := fun _ => fun
  | [d1, d2] => { results := [.lit (.bool true)], args := [d1, d2] }
  | _ => none }
def lineSameRow : OpenClaim := { program := "ytdlhhlebbnefkaa", sum := "0b68d60223456c00efa70df3f96d66301751d71cf52774420a2fb4201b84bf48", func := "lichen/lichenlaw12.LineSame", spec := "lineSame", apart := false }
def LineSameSaid : Prop := lineSameRow.holds Try.pinned (OpenSpec.ofChange lineSameSpec)

/-- ITS FALSE NEIGHBOUR: 'it returns false'. Refute it at one input. -/
def lineSameWrong : ChangeSpec := { name := "lineSame", fn := fun _ => fun
  | [d1, d2] => { results := [.lit (.bool false)], args := [d1, d2] }
  | _ => none }
def LineSameWrongFalsely : Prop := lineSameRow.holds Try.pinned (OpenSpec.ofChange lineSameWrong)

/- THE SECOND FORM. 'bulk': how many values and letters a reading holds, each counted each time it is reached (what is shared counts as often as it is met; a slice's spare places count too). A statement '..UptoSaid' is the law's where the arguments, and the package variables that the reading takes, are together of bulk at most 1048576: NARROWER than '..Said'. Prove '..Said' where nothing that the law and all that it calls make is longer than what came in: it says more and counts as full. Else prove '..UptoSaid'. A law counts once. -/
mutual
def uptoBulk {H : Type} : DataW H → Nat
  | .lit (.string bytes) => bytes.length + 1
  | .lit _ => 1
  | .nil => 1
  | .ptr d => uptoBulk d + 1
  | .slice elems spare => uptoBulkAll elems + uptoBulkAll spare + 1
  | .agg parts => uptoBulkAll parts + 1
  | .iface _ d => uptoBulk d + 1
  | .map entries => uptoBulkEntries entries + 1
  | .held _ => 1
def uptoBulkAll {H : Type} : List (DataW H) → Nat
  | [] => 0
  | d :: r => uptoBulk d + uptoBulkAll r
def uptoBulkEntries {H : Type} : List (Lit × DataW H) → Nat
  | [] => 0
  | x :: r => uptoBulkEntry x + uptoBulkEntries r
def uptoBulkEntry {H : Type} : Lit × DataW H → Nat
  | (.string bytes, d) => bytes.length + uptoBulk d + 1
  | (_, d) => uptoBulk d + 1
 end
def uptoSmall : (H : Type) → List (DataW H) → Bool := fun _ ds => decide (uptoBulkAll ds ≤ 1048576)
def OpenSpec.upto (s : _root_.Go.ChangeSpec) : _root_.Go.OpenSpec := { _root_.Go.OpenSpec.ofChange s with cond := some uptoSmall }

/-- 'lichenlaw8.Fifos', WHERE WHAT IT READS IS OF BULK AT MOST 1048576: true; the input reads as it did. -/
def fifosUptoRow : OpenClaim := { program := "ytdlhhlebbnefkaa", sum := "0b68d60223456c00efa70df3f96d66301751d71cf52774420a2fb4201b84bf48", func := "lichen/lichenlaw8.Fifos", spec := "fifos", apart := false, narrowed := true }
def FifosUptoSaid : Prop := fifosUptoRow.holds Try.pinned (OpenSpec.upto fifosSpec)

/-- 'lichenlaw8.FifoRow', WHERE WHAT IT READS IS OF BULK AT MOST 1048576: true; the input reads as it did. -/
def fifoRowUptoRow : OpenClaim := { program := "ytdlhhlebbnefkaa", sum := "0b68d60223456c00efa70df3f96d66301751d71cf52774420a2fb4201b84bf48", func := "lichen/lichenlaw8.FifoRow", spec := "fifoRow", apart := false, narrowed := true }
def FifoRowUptoSaid : Prop := fifoRowUptoRow.holds Try.pinned (OpenSpec.upto fifoRowSpec)

/-- 'lichenlaw8.FifoTurns', WHERE WHAT IT READS IS OF BULK AT MOST 1048576: true; the input reads as it did. -/
def fifoTurnsUptoRow : OpenClaim := { program := "ytdlhhlebbnefkaa", sum := "0b68d60223456c00efa70df3f96d66301751d71cf52774420a2fb4201b84bf48", func := "lichen/lichenlaw8.FifoTurns", spec := "fifoTurns", apart := false, narrowed := true }
def FifoTurnsUptoSaid : Prop := fifoTurnsUptoRow.holds Try.pinned (OpenSpec.upto fifoTurnsSpec)

/-- 'lichenlaw12.Lines', WHERE WHAT IT READS IS OF BULK AT MOST 1048576: true; the input reads as it did. -/
def linesUptoRow : OpenClaim := { program := "ytdlhhlebbnefkaa", sum := "0b68d60223456c00efa70df3f96d66301751d71cf52774420a2fb4201b84bf48", func := "lichen/lichenlaw12.Lines", spec := "lines", apart := false, narrowed := true }
def LinesUptoSaid : Prop := linesUptoRow.holds Try.pinned (OpenSpec.upto linesSpec)

/-- 'lichenlaw12.LineLast', WHERE WHAT IT READS IS OF BULK AT MOST 1048576: true; the input reads as it did. -/
def lineLastUptoRow : OpenClaim := { program := "ytdlhhlebbnefkaa", sum := "0b68d60223456c00efa70df3f96d66301751d71cf52774420a2fb4201b84bf48", func := "lichen/lichenlaw12.LineLast", spec := "lineLast", apart := false, narrowed := true }
def LineLastUptoSaid : Prop := lineLastUptoRow.holds Try.pinned (OpenSpec.upto lineLastSpec)

/-- 'lichenlaw12.LineForms', WHERE WHAT IT READS IS OF BULK AT MOST 1048576: true; the input reads as it did. -/
def lineFormsUptoRow : OpenClaim := { program := "ytdlhhlebbnefkaa", sum := "0b68d60223456c00efa70df3f96d66301751d71cf52774420a2fb4201b84bf48", func := "lichen/lichenlaw12.LineForms", spec := "lineForms", apart := false, narrowed := true }
def LineFormsUptoSaid : Prop := lineFormsUptoRow.holds Try.pinned (OpenSpec.upto lineFormsSpec)

/-- 'lichenlaw12.LineRound', WHERE WHAT IT READS IS OF BULK AT MOST 1048576: true; the input reads as it did. -/
def lineRoundUptoRow : OpenClaim := { program := "ytdlhhlebbnefkaa", sum := "0b68d60223456c00efa70df3f96d66301751d71cf52774420a2fb4201b84bf48", func := "lichen/lichenlaw12.LineRound", spec := "lineRound", apart := false, narrowed := true }
def LineRoundUptoSaid : Prop := lineRoundUptoRow.holds Try.pinned (OpenSpec.upto lineRoundSpec)

/-- 'lichenlaw12.LineSame', WHERE WHAT IT READS IS OF BULK AT MOST 1048576: true; the input reads as it did. -/
def lineSameUptoRow : OpenClaim := { program := "ytdlhhlebbnefkaa", sum := "0b68d60223456c00efa70df3f96d66301751d71cf52774420a2fb4201b84bf48", func := "lichen/lichenlaw12.LineSame", spec := "lineSame", apart := false, narrowed := true }
def LineSameUptoSaid : Prop := lineSameUptoRow.holds Try.pinned (OpenSpec.upto lineSameSpec)

end Rows
end Go.Proofs.Ytdlhhlebbnefkaa
