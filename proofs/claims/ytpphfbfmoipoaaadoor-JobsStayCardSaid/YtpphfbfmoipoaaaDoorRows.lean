/-
  NARROWER THAN 'FOR EVERY INPUT', by the rows' own cells (each row's printed sentence says how): JobsAdds: laid · JobsLooks: laid · JobsNumbers: laid · JobsUpdates: laid · JobsValid: laid · JobsStay: laid.
  DERIVED. THE GIVEN ROWS OF THIS SEAT. 6 by the template 'for every input the law returns true; each argument reads behind the call as it read before'; 0 by the template 'total and deterministic' (their statements: YtpphfbfmoipoaaaDoorTotals.lean).
  GIVEN WITH THE SEED: the statements are not yours to turn. If you find one false, say at which input.
  Laid BY PROGRAM, IN A SANDBOX (cutbox-rows.mjs): the forced cells as the released guide's own fill.sh prints them over the translation 54619dc656a692ee… (all of the seat's roots in one cut). By AI agents, Wed Nov 11 2026. No macro, syntax, notation, axiom, sorry.
-/
import Derived.Test.YtpphfbfmoipoaaaDoorChecked
import GoSem.Claim
import GoSem.ClaimJoined
import GoSem.ClaimMapViews
import Derived.JoinedTies
import Derived.KernelRfl
namespace Go.Proofs.YtpphfbfmoipoaaaDoor
/- THE CELL 'sum', in the pinned program and in every row, IS THE sha256 OF THE DUMP (.gsa) THAT YtpphfbfmoipoaaaDoorProg.lean LOADS. Nothing in Lean hashes anything: it is a label: what it is worth is what the hold of that sum in a sandbox is worth. -/
noncomputable def Tryd.pinned : Pinned := { name := "ytpphfbfmoipoaaadoor", sum := "54619dc656a692ee575c964a19cfd51270845a0d6c2ca5b0a64956ff78239474", checked := Tryd.checked }
namespace Rows
def none {H : Type} : Left H := { results := [], args := [] }

/- WHAT THE LISTED PACKAGE-LEVEL VARIABLES READ AS WHEN THE CALL BEGINS. Each datum BY PROGRAM (the guide's laid-datum.mjs) off the statement by which the dump's own 'gosem.cut.vars' lays the variable. In a bare row this is a premise. The card (YtpphfbfmoipoaaaDoorCards.lean) ties it to the program's text. -/
def laid_math_bits_deBruijn32tab {H : Type} : DataW H := .agg [.lit (.int .u8 0), .lit (.int .u8 1), .lit (.int .u8 28), .lit (.int .u8 2), .lit (.int .u8 29), .lit (.int .u8 14), .lit (.int .u8 24), .lit (.int .u8 3), .lit (.int .u8 30), .lit (.int .u8 22), .lit (.int .u8 20), .lit (.int .u8 15), .lit (.int .u8 25), .lit (.int .u8 17), .lit (.int .u8 4), .lit (.int .u8 8), .lit (.int .u8 31), .lit (.int .u8 27), .lit (.int .u8 13), .lit (.int .u8 23), .lit (.int .u8 21), .lit (.int .u8 19), .lit (.int .u8 16), .lit (.int .u8 7), .lit (.int .u8 26), .lit (.int .u8 12), .lit (.int .u8 18), .lit (.int .u8 6), .lit (.int .u8 11), .lit (.int .u8 5), .lit (.int .u8 10), .lit (.int .u8 9)]
def laid_math_bits_deBruijn64tab {H : Type} : DataW H := .agg [.lit (.int .u8 0), .lit (.int .u8 1), .lit (.int .u8 56), .lit (.int .u8 2), .lit (.int .u8 57), .lit (.int .u8 49), .lit (.int .u8 28), .lit (.int .u8 3), .lit (.int .u8 61), .lit (.int .u8 58), .lit (.int .u8 42), .lit (.int .u8 50), .lit (.int .u8 38), .lit (.int .u8 29), .lit (.int .u8 17), .lit (.int .u8 4), .lit (.int .u8 62), .lit (.int .u8 47), .lit (.int .u8 59), .lit (.int .u8 36), .lit (.int .u8 45), .lit (.int .u8 43), .lit (.int .u8 51), .lit (.int .u8 22), .lit (.int .u8 53), .lit (.int .u8 39), .lit (.int .u8 33), .lit (.int .u8 30), .lit (.int .u8 24), .lit (.int .u8 18), .lit (.int .u8 12), .lit (.int .u8 5), .lit (.int .u8 63), .lit (.int .u8 55), .lit (.int .u8 48), .lit (.int .u8 27), .lit (.int .u8 60), .lit (.int .u8 41), .lit (.int .u8 37), .lit (.int .u8 16), .lit (.int .u8 46), .lit (.int .u8 35), .lit (.int .u8 44), .lit (.int .u8 21), .lit (.int .u8 52), .lit (.int .u8 32), .lit (.int .u8 23), .lit (.int .u8 11), .lit (.int .u8 54), .lit (.int .u8 26), .lit (.int .u8 40), .lit (.int .u8 15), .lit (.int .u8 34), .lit (.int .u8 20), .lit (.int .u8 31), .lit (.int .u8 10), .lit (.int .u8 25), .lit (.int .u8 14), .lit (.int .u8 19), .lit (.int .u8 9), .lit (.int .u8 13), .lit (.int .u8 8), .lit (.int .u8 7), .lit (.int .u8 6)]
def laid_internal_strconv_uint64pow10 {H : Type} : DataW H := .agg [.lit (.int .u64 1), .lit (.int .u64 10), .lit (.int .u64 100), .lit (.int .u64 1000), .lit (.int .u64 10000), .lit (.int .u64 100000), .lit (.int .u64 1000000), .lit (.int .u64 10000000), .lit (.int .u64 100000000), .lit (.int .u64 1000000000), .lit (.int .u64 10000000000), .lit (.int .u64 100000000000), .lit (.int .u64 1000000000000), .lit (.int .u64 10000000000000), .lit (.int .u64 100000000000000), .lit (.int .u64 1000000000000000), .lit (.int .u64 10000000000000000), .lit (.int .u64 100000000000000000), .lit (.int .u64 1000000000000000000), .lit (.int .u64 10000000000000000000)]
def laid_jobshell_status_words {H : Type} : DataW H := .agg [.lit (.string []), .lit (.string [72, 85, 80]), .lit (.string [73, 78, 84]), .lit (.string [81, 85, 73, 84]), .lit (.string [84, 84, 73, 78]), .lit (.string [84, 84, 79, 85]), .lit (.string []), .lit (.string []), .lit (.string []), .lit (.string [75, 73, 76, 76]), .lit (.string [85, 83, 82, 49]), .lit (.string []), .lit (.string [85, 83, 82, 50]), .lit (.string [80, 73, 80, 69]), .lit (.string [65, 76, 82, 77]), .lit (.string [84, 69, 82, 77]), .lit (.string []), .lit (.string [67, 72, 76, 68]), .lit (.string [67, 79, 78, 84]), .lit (.string [83, 84, 79, 80]), .lit (.string [84, 83, 84, 80])]

/-- 'jobshelllaw36.JobsAdds': WHATEVER THE INPUT: true; the input reads as it did. -/
def jobsAddsSpec : ChangeSpec := { name := "jobsAdds", fn := fun _ => fun
  | [d1, d2, d3, d4] => { results := [.lit (.bool true)], args := [d1, d2, d3, d4] }
  | _ => none }
def jobsAddsRow : OpenClaim := { program := "ytpphfbfmoipoaaadoor", sum := "54619dc656a692ee575c964a19cfd51270845a0d6c2ca5b0a64956ff78239474", func := "jobshell/jobshelllaw36.JobsAdds", spec := "jobsAdds", inPlace := ["internal/abi.NoEscape", "internal/bytealg.MakeNoZero", "internal/bytealg.IndexByteString", "internal/bytealg.IndexString"], unfollowed := true, recurses := true, named := ["internal/strconv.uint64pow10", "math/bits.deBruijn32tab", "math/bits.deBruijn64tab", "jobshell/status.words", "internal/bytealg.MaxLen"], apart := false, laid := [("math/bits.deBruijn32tab", laid_math_bits_deBruijn32tab), ("math/bits.deBruijn64tab", laid_math_bits_deBruijn64tab), ("internal/strconv.uint64pow10", laid_internal_strconv_uint64pow10), ("jobshell/status.words", laid_jobshell_status_words)] }
def JobsAddsSaid : Prop := jobsAddsRow.holds Tryd.pinned (OpenSpec.ofChange jobsAddsSpec)

/-- ITS FALSE NEIGHBOUR: 'it returns false'. Refute it at one input. -/
def jobsAddsWrong : ChangeSpec := { name := "jobsAdds", fn := fun _ => fun
  | [d1, d2, d3, d4] => { results := [.lit (.bool false)], args := [d1, d2, d3, d4] }
  | _ => none }
def JobsAddsWrongFalsely : Prop := jobsAddsRow.holds Tryd.pinned (OpenSpec.ofChange jobsAddsWrong)

/-- 'jobshelllaw36.JobsLooks': WHATEVER THE INPUT: true; the input reads as it did. -/
def jobsLooksSpec : ChangeSpec := { name := "jobsLooks", fn := fun _ => fun
  | [d1, d2, d3, d4] => { results := [.lit (.bool true)], args := [d1, d2, d3, d4] }
  | _ => none }
def jobsLooksRow : OpenClaim := { program := "ytpphfbfmoipoaaadoor", sum := "54619dc656a692ee575c964a19cfd51270845a0d6c2ca5b0a64956ff78239474", func := "jobshell/jobshelllaw36.JobsLooks", spec := "jobsLooks", inPlace := ["internal/abi.NoEscape", "internal/bytealg.MakeNoZero", "internal/bytealg.IndexByteString", "internal/bytealg.IndexString"], unfollowed := true, recurses := true, named := ["internal/strconv.uint64pow10", "math/bits.deBruijn32tab", "math/bits.deBruijn64tab", "jobshell/status.words", "internal/bytealg.MaxLen"], apart := false, laid := [("math/bits.deBruijn32tab", laid_math_bits_deBruijn32tab), ("math/bits.deBruijn64tab", laid_math_bits_deBruijn64tab), ("internal/strconv.uint64pow10", laid_internal_strconv_uint64pow10), ("jobshell/status.words", laid_jobshell_status_words)] }
def JobsLooksSaid : Prop := jobsLooksRow.holds Tryd.pinned (OpenSpec.ofChange jobsLooksSpec)

/-- ITS FALSE NEIGHBOUR: 'it returns false'. Refute it at one input. -/
def jobsLooksWrong : ChangeSpec := { name := "jobsLooks", fn := fun _ => fun
  | [d1, d2, d3, d4] => { results := [.lit (.bool false)], args := [d1, d2, d3, d4] }
  | _ => none }
def JobsLooksWrongFalsely : Prop := jobsLooksRow.holds Tryd.pinned (OpenSpec.ofChange jobsLooksWrong)

/-- 'jobshelllaw36.JobsNumbers': WHATEVER THE INPUT: true; the input reads as it did. -/
def jobsNumbersSpec : ChangeSpec := { name := "jobsNumbers", fn := fun _ => fun
  | [d] => { results := [.lit (.bool true)], args := [d] }
  | _ => none }
def jobsNumbersRow : OpenClaim := { program := "ytpphfbfmoipoaaadoor", sum := "54619dc656a692ee575c964a19cfd51270845a0d6c2ca5b0a64956ff78239474", func := "jobshell/jobshelllaw36.JobsNumbers", spec := "jobsNumbers", inPlace := ["internal/abi.NoEscape", "internal/bytealg.MakeNoZero", "internal/bytealg.IndexByteString", "internal/bytealg.IndexString"], unfollowed := true, recurses := true, named := ["internal/strconv.uint64pow10", "math/bits.deBruijn32tab", "math/bits.deBruijn64tab", "jobshell/status.words", "internal/bytealg.MaxLen"], apart := false, laid := [("math/bits.deBruijn32tab", laid_math_bits_deBruijn32tab), ("math/bits.deBruijn64tab", laid_math_bits_deBruijn64tab), ("internal/strconv.uint64pow10", laid_internal_strconv_uint64pow10), ("jobshell/status.words", laid_jobshell_status_words)] }
def JobsNumbersSaid : Prop := jobsNumbersRow.holds Tryd.pinned (OpenSpec.ofChange jobsNumbersSpec)

/-- ITS FALSE NEIGHBOUR: 'it returns false'. Refute it at one input. -/
def jobsNumbersWrong : ChangeSpec := { name := "jobsNumbers", fn := fun _ => fun
  | [d] => { results := [.lit (.bool false)], args := [d] }
  | _ => none }
def JobsNumbersWrongFalsely : Prop := jobsNumbersRow.holds Tryd.pinned (OpenSpec.ofChange jobsNumbersWrong)

/-- 'jobshelllaw36.JobsUpdates': WHATEVER THE INPUT: true; the input reads as it did. -/
def jobsUpdatesSpec : ChangeSpec := { name := "jobsUpdates", fn := fun _ => fun
  | [d1, d2, d3] => { results := [.lit (.bool true)], args := [d1, d2, d3] }
  | _ => none }
def jobsUpdatesRow : OpenClaim := { program := "ytpphfbfmoipoaaadoor", sum := "54619dc656a692ee575c964a19cfd51270845a0d6c2ca5b0a64956ff78239474", func := "jobshell/jobshelllaw36.JobsUpdates", spec := "jobsUpdates", inPlace := ["internal/abi.NoEscape", "internal/bytealg.MakeNoZero", "internal/bytealg.IndexByteString", "internal/bytealg.IndexString"], unfollowed := true, recurses := true, named := ["internal/strconv.uint64pow10", "math/bits.deBruijn32tab", "math/bits.deBruijn64tab", "jobshell/status.words", "internal/bytealg.MaxLen"], apart := false, laid := [("math/bits.deBruijn32tab", laid_math_bits_deBruijn32tab), ("math/bits.deBruijn64tab", laid_math_bits_deBruijn64tab), ("internal/strconv.uint64pow10", laid_internal_strconv_uint64pow10), ("jobshell/status.words", laid_jobshell_status_words)] }
def JobsUpdatesSaid : Prop := jobsUpdatesRow.holds Tryd.pinned (OpenSpec.ofChange jobsUpdatesSpec)

/-- ITS FALSE NEIGHBOUR: 'it returns false'. Refute it at one input. -/
def jobsUpdatesWrong : ChangeSpec := { name := "jobsUpdates", fn := fun _ => fun
  | [d1, d2, d3] => { results := [.lit (.bool false)], args := [d1, d2, d3] }
  | _ => none }
def JobsUpdatesWrongFalsely : Prop := jobsUpdatesRow.holds Tryd.pinned (OpenSpec.ofChange jobsUpdatesWrong)

/-- 'jobshelllaw36.JobsValid': WHATEVER THE INPUT: true; the input reads as it did. -/
def jobsValidSpec : ChangeSpec := { name := "jobsValid", fn := fun _ => fun
  | [d] => { results := [.lit (.bool true)], args := [d] }
  | _ => none }
def jobsValidRow : OpenClaim := { program := "ytpphfbfmoipoaaadoor", sum := "54619dc656a692ee575c964a19cfd51270845a0d6c2ca5b0a64956ff78239474", func := "jobshell/jobshelllaw36.JobsValid", spec := "jobsValid", inPlace := ["internal/abi.NoEscape", "internal/bytealg.MakeNoZero", "internal/bytealg.IndexByteString", "internal/bytealg.IndexString"], unfollowed := true, recurses := true, named := ["internal/strconv.uint64pow10", "math/bits.deBruijn32tab", "math/bits.deBruijn64tab", "jobshell/status.words", "internal/bytealg.MaxLen"], apart := false, laid := [("math/bits.deBruijn32tab", laid_math_bits_deBruijn32tab), ("math/bits.deBruijn64tab", laid_math_bits_deBruijn64tab), ("internal/strconv.uint64pow10", laid_internal_strconv_uint64pow10), ("jobshell/status.words", laid_jobshell_status_words)] }
def JobsValidSaid : Prop := jobsValidRow.holds Tryd.pinned (OpenSpec.ofChange jobsValidSpec)

/-- ITS FALSE NEIGHBOUR: 'it returns false'. Refute it at one input. -/
def jobsValidWrong : ChangeSpec := { name := "jobsValid", fn := fun _ => fun
  | [d] => { results := [.lit (.bool false)], args := [d] }
  | _ => none }
def JobsValidWrongFalsely : Prop := jobsValidRow.holds Tryd.pinned (OpenSpec.ofChange jobsValidWrong)

/-- 'jobshelllaw36.JobsStay': WHATEVER THE INPUT: true; the input reads as it did. -/
def jobsStaySpec : ChangeSpec := { name := "jobsStay", fn := fun _ => fun
  | [d] => { results := [.lit (.bool true)], args := [d] }
  | _ => none }
def jobsStayRow : OpenClaim := { program := "ytpphfbfmoipoaaadoor", sum := "54619dc656a692ee575c964a19cfd51270845a0d6c2ca5b0a64956ff78239474", func := "jobshell/jobshelllaw36.JobsStay", spec := "jobsStay", inPlace := ["internal/abi.NoEscape", "internal/bytealg.MakeNoZero", "internal/bytealg.IndexByteString", "internal/bytealg.IndexString"], unfollowed := true, recurses := true, named := ["internal/strconv.uint64pow10", "math/bits.deBruijn32tab", "math/bits.deBruijn64tab", "jobshell/status.words", "internal/bytealg.MaxLen"], apart := false, laid := [("math/bits.deBruijn32tab", laid_math_bits_deBruijn32tab), ("math/bits.deBruijn64tab", laid_math_bits_deBruijn64tab), ("internal/strconv.uint64pow10", laid_internal_strconv_uint64pow10), ("jobshell/status.words", laid_jobshell_status_words)] }
def JobsStaySaid : Prop := jobsStayRow.holds Tryd.pinned (OpenSpec.ofChange jobsStaySpec)

/-- ITS FALSE NEIGHBOUR: 'it returns false'. Refute it at one input. -/
def jobsStayWrong : ChangeSpec := { name := "jobsStay", fn := fun _ => fun
  | [d] => { results := [.lit (.bool false)], args := [d] }
  | _ => none }
def JobsStayWrongFalsely : Prop := jobsStayRow.holds Tryd.pinned (OpenSpec.ofChange jobsStayWrong)

/- THE SECOND FORM. 'bulk': how many values and letters a reading holds, each counted each time it is reached (what is shared counts as often as it is met; a slice's spare places count too). A statement '..UptoSaid' is the law's where the arguments, and the package variables that the reading takes, are together of bulk at most 1048576: NARROWER than '..Said'. Prove '..Said' where nothing that the law and all that it calls make is longer than what came in: it says more and counts as full. Else prove '..UptoSaid'. A law counts once. -/
mutual
def uptoBulk {H : Type} : DataW H → Nat
  | .lit (.string bytes) => bytes.length + 1
  | .lit _ => 1
  | .nil => 1
  | .ptr d => uptoBulk d + 1
  | .slice elems spare => uptoBulkAll elems + uptoBulkAll spare + 1
  | .agg parts => uptoBulkAll parts + 1
  | .iface _ d => uptoBulk d + 1
  | .map entries => uptoBulkEntries entries + 1
  | .held _ => 1
def uptoBulkAll {H : Type} : List (DataW H) → Nat
  | [] => 0
  | d :: r => uptoBulk d + uptoBulkAll r
def uptoBulkEntries {H : Type} : List (Lit × DataW H) → Nat
  | [] => 0
  | x :: r => uptoBulkEntry x + uptoBulkEntries r
def uptoBulkEntry {H : Type} : Lit × DataW H → Nat
  | (.string bytes, d) => bytes.length + uptoBulk d + 1
  | (_, d) => uptoBulk d + 1
 end
def uptoSmall : (H : Type) → List (DataW H) → Bool := fun _ ds => decide (uptoBulkAll ds ≤ 1048576)
def OpenSpec.upto (s : _root_.Go.ChangeSpec) : _root_.Go.OpenSpec := { _root_.Go.OpenSpec.ofChange s with cond := some uptoSmall }

/-- 'jobshelllaw36.JobsAdds', WHERE WHAT IT READS IS OF BULK AT MOST 1048576: true; the input reads as it did. -/
def jobsAddsUptoRow : OpenClaim := { program := "ytpphfbfmoipoaaadoor", sum := "54619dc656a692ee575c964a19cfd51270845a0d6c2ca5b0a64956ff78239474", func := "jobshell/jobshelllaw36.JobsAdds", spec := "jobsAdds", inPlace := ["internal/abi.NoEscape", "internal/bytealg.MakeNoZero", "internal/bytealg.IndexByteString", "internal/bytealg.IndexString"], unfollowed := true, recurses := true, named := ["internal/strconv.uint64pow10", "math/bits.deBruijn32tab", "math/bits.deBruijn64tab", "jobshell/status.words", "internal/bytealg.MaxLen"], apart := false, laid := [("math/bits.deBruijn32tab", laid_math_bits_deBruijn32tab), ("math/bits.deBruijn64tab", laid_math_bits_deBruijn64tab), ("internal/strconv.uint64pow10", laid_internal_strconv_uint64pow10), ("jobshell/status.words", laid_jobshell_status_words)], narrowed := true }
def JobsAddsUptoSaid : Prop := jobsAddsUptoRow.holds Tryd.pinned (OpenSpec.upto jobsAddsSpec)

/-- 'jobshelllaw36.JobsLooks', WHERE WHAT IT READS IS OF BULK AT MOST 1048576: true; the input reads as it did. -/
def jobsLooksUptoRow : OpenClaim := { program := "ytpphfbfmoipoaaadoor", sum := "54619dc656a692ee575c964a19cfd51270845a0d6c2ca5b0a64956ff78239474", func := "jobshell/jobshelllaw36.JobsLooks", spec := "jobsLooks", inPlace := ["internal/abi.NoEscape", "internal/bytealg.MakeNoZero", "internal/bytealg.IndexByteString", "internal/bytealg.IndexString"], unfollowed := true, recurses := true, named := ["internal/strconv.uint64pow10", "math/bits.deBruijn32tab", "math/bits.deBruijn64tab", "jobshell/status.words", "internal/bytealg.MaxLen"], apart := false, laid := [("math/bits.deBruijn32tab", laid_math_bits_deBruijn32tab), ("math/bits.deBruijn64tab", laid_math_bits_deBruijn64tab), ("internal/strconv.uint64pow10", laid_internal_strconv_uint64pow10), ("jobshell/status.words", laid_jobshell_status_words)], narrowed := true }
def JobsLooksUptoSaid : Prop := jobsLooksUptoRow.holds Tryd.pinned (OpenSpec.upto jobsLooksSpec)

/-- 'jobshelllaw36.JobsNumbers', WHERE WHAT IT READS IS OF BULK AT MOST 1048576: true; the input reads as it did. -/
def jobsNumbersUptoRow : OpenClaim := { program := "ytpphfbfmoipoaaadoor", sum := "54619dc656a692ee575c964a19cfd51270845a0d6c2ca5b0a64956ff78239474", func := "jobshell/jobshelllaw36.JobsNumbers", spec := "jobsNumbers", inPlace := ["internal/abi.NoEscape", "internal/bytealg.MakeNoZero", "internal/bytealg.IndexByteString", "internal/bytealg.IndexString"], unfollowed := true, recurses := true, named := ["internal/strconv.uint64pow10", "math/bits.deBruijn32tab", "math/bits.deBruijn64tab", "jobshell/status.words", "internal/bytealg.MaxLen"], apart := false, laid := [("math/bits.deBruijn32tab", laid_math_bits_deBruijn32tab), ("math/bits.deBruijn64tab", laid_math_bits_deBruijn64tab), ("internal/strconv.uint64pow10", laid_internal_strconv_uint64pow10), ("jobshell/status.words", laid_jobshell_status_words)], narrowed := true }
def JobsNumbersUptoSaid : Prop := jobsNumbersUptoRow.holds Tryd.pinned (OpenSpec.upto jobsNumbersSpec)

/-- 'jobshelllaw36.JobsUpdates', WHERE WHAT IT READS IS OF BULK AT MOST 1048576: true; the input reads as it did. -/
def jobsUpdatesUptoRow : OpenClaim := { program := "ytpphfbfmoipoaaadoor", sum := "54619dc656a692ee575c964a19cfd51270845a0d6c2ca5b0a64956ff78239474", func := "jobshell/jobshelllaw36.JobsUpdates", spec := "jobsUpdates", inPlace := ["internal/abi.NoEscape", "internal/bytealg.MakeNoZero", "internal/bytealg.IndexByteString", "internal/bytealg.IndexString"], unfollowed := true, recurses := true, named := ["internal/strconv.uint64pow10", "math/bits.deBruijn32tab", "math/bits.deBruijn64tab", "jobshell/status.words", "internal/bytealg.MaxLen"], apart := false, laid := [("math/bits.deBruijn32tab", laid_math_bits_deBruijn32tab), ("math/bits.deBruijn64tab", laid_math_bits_deBruijn64tab), ("internal/strconv.uint64pow10", laid_internal_strconv_uint64pow10), ("jobshell/status.words", laid_jobshell_status_words)], narrowed := true }
def JobsUpdatesUptoSaid : Prop := jobsUpdatesUptoRow.holds Tryd.pinned (OpenSpec.upto jobsUpdatesSpec)

/-- 'jobshelllaw36.JobsValid', WHERE WHAT IT READS IS OF BULK AT MOST 1048576: true; the input reads as it did. -/
def jobsValidUptoRow : OpenClaim := { program := "ytpphfbfmoipoaaadoor", sum := "54619dc656a692ee575c964a19cfd51270845a0d6c2ca5b0a64956ff78239474", func := "jobshell/jobshelllaw36.JobsValid", spec := "jobsValid", inPlace := ["internal/abi.NoEscape", "internal/bytealg.MakeNoZero", "internal/bytealg.IndexByteString", "internal/bytealg.IndexString"], unfollowed := true, recurses := true, named := ["internal/strconv.uint64pow10", "math/bits.deBruijn32tab", "math/bits.deBruijn64tab", "jobshell/status.words", "internal/bytealg.MaxLen"], apart := false, laid := [("math/bits.deBruijn32tab", laid_math_bits_deBruijn32tab), ("math/bits.deBruijn64tab", laid_math_bits_deBruijn64tab), ("internal/strconv.uint64pow10", laid_internal_strconv_uint64pow10), ("jobshell/status.words", laid_jobshell_status_words)], narrowed := true }
def JobsValidUptoSaid : Prop := jobsValidUptoRow.holds Tryd.pinned (OpenSpec.upto jobsValidSpec)

/-- 'jobshelllaw36.JobsStay', WHERE WHAT IT READS IS OF BULK AT MOST 1048576: true; the input reads as it did. -/
def jobsStayUptoRow : OpenClaim := { program := "ytpphfbfmoipoaaadoor", sum := "54619dc656a692ee575c964a19cfd51270845a0d6c2ca5b0a64956ff78239474", func := "jobshell/jobshelllaw36.JobsStay", spec := "jobsStay", inPlace := ["internal/abi.NoEscape", "internal/bytealg.MakeNoZero", "internal/bytealg.IndexByteString", "internal/bytealg.IndexString"], unfollowed := true, recurses := true, named := ["internal/strconv.uint64pow10", "math/bits.deBruijn32tab", "math/bits.deBruijn64tab", "jobshell/status.words", "internal/bytealg.MaxLen"], apart := false, laid := [("math/bits.deBruijn32tab", laid_math_bits_deBruijn32tab), ("math/bits.deBruijn64tab", laid_math_bits_deBruijn64tab), ("internal/strconv.uint64pow10", laid_internal_strconv_uint64pow10), ("jobshell/status.words", laid_jobshell_status_words)], narrowed := true }
def JobsStayUptoSaid : Prop := jobsStayUptoRow.holds Tryd.pinned (OpenSpec.upto jobsStaySpec)

end Rows
end Go.Proofs.YtpphfbfmoipoaaaDoor
