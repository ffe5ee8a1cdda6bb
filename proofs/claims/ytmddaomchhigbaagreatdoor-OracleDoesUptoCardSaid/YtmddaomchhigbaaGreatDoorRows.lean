/-
  NARROWER THAN 'FOR EVERY INPUT', by the rows' own cells (each row's printed sentence says how): OracleBytes: laid · OracleBack: laid · OracleDoes: laid · OracleTakes: laid · OracleNone: laid · OracleApart: laid.
  DERIVED. THE GIVEN ROWS OF THIS SEAT. 6 by the template 'for every input the law returns true; each argument reads behind the call as it read before'; 0 by the template 'total and deterministic' (their statements: YtmddaomchhigbaaGreatDoorTotals.lean).
  GIVEN WITH THE SEED: the statements are not yours to turn. If you find one false, say at which input.
  Laid BY PROGRAM, IN A SANDBOX (cutbox-rows.mjs): the forced cells as the released guide's own fill.sh prints them over the translation 0866df36861c6778… (all of the seat's roots in one cut). By AI agents, Wed Nov 11 2026. No macro, syntax, notation, axiom, sorry.
-/
import Derived.Test.YtmddaomchhigbaaGreatDoorChecked
import GoSem.PinnedTables
import GoSem.Claim
import GoSem.ClaimJoined
import GoSem.ClaimMapViews
import Derived.JoinedTies
import Derived.KernelRfl
namespace Go.Proofs.YtmddaomchhigbaaGreatDoor
/- THE CELL 'sum', in the pinned program and in every row, IS THE sha256 OF THE DUMP (.gsa) THAT YtmddaomchhigbaaGreatDoorProg.lean LOADS. Nothing in Lean hashes anything: it is a label: what it is worth is what the hold of that sum in a sandbox is worth. -/
noncomputable def Tryz.pinned : Pinned := { name := "ytmddaomchhigbaagreatdoor", sum := "0866df36861c677808eb22610bc6b7a89b5916975f1c77be318a9bd259e4d36c", checked := Tryz.checked }
namespace Rows
def none {H : Type} : Left H := { results := [], args := [] }

/- WHAT THE LISTED PACKAGE-LEVEL VARIABLES READ AS WHEN THE CALL BEGINS. Each datum BY PROGRAM (the guide's laid-datum.mjs) off the statement by which the dump's own 'gosem.cut.vars' lays the variable. In a bare row this is a premise. The card (YtmddaomchhigbaaGreatDoorCards.lean) ties it to the program's text. -/
def laid_unicode_utf8_acceptRanges {H : Type} : DataW H := .agg [.agg [.lit (.int .u8 128), .lit (.int .u8 191)], .agg [.lit (.int .u8 160), .lit (.int .u8 191)], .agg [.lit (.int .u8 128), .lit (.int .u8 159)], .agg [.lit (.int .u8 144), .lit (.int .u8 191)], .agg [.lit (.int .u8 128), .lit (.int .u8 143)], .agg [.lit (.int .u8 0), .lit (.int .u8 0)], .agg [.lit (.int .u8 0), .lit (.int .u8 0)], .agg [.lit (.int .u8 0), .lit (.int .u8 0)], .agg [.lit (.int .u8 0), .lit (.int .u8 0)], .agg [.lit (.int .u8 0), .lit (.int .u8 0)], .agg [.lit (.int .u8 0), .lit (.int .u8 0)], .agg [.lit (.int .u8 0), .lit (.int .u8 0)], .agg [.lit (.int .u8 0), .lit (.int .u8 0)], .agg [.lit (.int .u8 0), .lit (.int .u8 0)], .agg [.lit (.int .u8 0), .lit (.int .u8 0)], .agg [.lit (.int .u8 0), .lit (.int .u8 0)]]
def laid_errors_errorType {H : Type} : DataW H := .iface "internal/reflectlite.rtype" (.agg [.ptr (.lit (.string [101, 114, 114, 111, 114]))])
def laid_usance_mac_keys {H : Type} : DataW H := .agg [.lit (.int .u32 1116352408), .lit (.int .u32 1899447441), .lit (.int .u32 3049323471), .lit (.int .u32 3921009573), .lit (.int .u32 961987163), .lit (.int .u32 1508970993), .lit (.int .u32 2453635748), .lit (.int .u32 2870763221), .lit (.int .u32 3624381080), .lit (.int .u32 310598401), .lit (.int .u32 607225278), .lit (.int .u32 1426881987), .lit (.int .u32 1925078388), .lit (.int .u32 2162078206), .lit (.int .u32 2614888103), .lit (.int .u32 3248222580), .lit (.int .u32 3835390401), .lit (.int .u32 4022224774), .lit (.int .u32 264347078), .lit (.int .u32 604807628), .lit (.int .u32 770255983), .lit (.int .u32 1249150122), .lit (.int .u32 1555081692), .lit (.int .u32 1996064986), .lit (.int .u32 2554220882), .lit (.int .u32 2821834349), .lit (.int .u32 2952996808), .lit (.int .u32 3210313671), .lit (.int .u32 3336571891), .lit (.int .u32 3584528711), .lit (.int .u32 113926993), .lit (.int .u32 338241895), .lit (.int .u32 666307205), .lit (.int .u32 773529912), .lit (.int .u32 1294757372), .lit (.int .u32 1396182291), .lit (.int .u32 1695183700), .lit (.int .u32 1986661051), .lit (.int .u32 2177026350), .lit (.int .u32 2456956037), .lit (.int .u32 2730485921), .lit (.int .u32 2820302411), .lit (.int .u32 3259730800), .lit (.int .u32 3345764771), .lit (.int .u32 3516065817), .lit (.int .u32 3600352804), .lit (.int .u32 4094571909), .lit (.int .u32 275423344), .lit (.int .u32 430227734), .lit (.int .u32 506948616), .lit (.int .u32 659060556), .lit (.int .u32 883997877), .lit (.int .u32 958139571), .lit (.int .u32 1322822218), .lit (.int .u32 1537002063), .lit (.int .u32 1747873779), .lit (.int .u32 1955562222), .lit (.int .u32 2024104815), .lit (.int .u32 2227730452), .lit (.int .u32 2361852424), .lit (.int .u32 2428436474), .lit (.int .u32 2756734187), .lit (.int .u32 3204031479), .lit (.int .u32 3329325298)]
/-- One of Go's own tables, pinned by name: the form's constant. -/
def laid_unicode_utf8_first : DataW Unit := Go.Pinned.utf8First

/-- 'usancelaw21.OracleBytes': WHATEVER THE INPUT: true; the input reads as it did. -/
def oracleBytesSpec : ChangeSpec := { name := "oracleBytes", fn := fun _ => fun
  | [d1, d2, d3] => { results := [.lit (.bool true)], args := [d1, d2, d3] }
  | _ => none }
def oracleBytesRow : OpenClaim := { program := "ytmddaomchhigbaagreatdoor", sum := "0866df36861c677808eb22610bc6b7a89b5916975f1c77be318a9bd259e4d36c", func := "usance/usancelaw21.OracleBytes", spec := "oracleBytes", inPlace := ["internal/bytealg.IndexByteString", "internal/bytealg.IndexString", "internal/abi.NoEscape", "internal/bytealg.MakeNoZero", "internal/reflectlite.ValueOf", "(internal/reflectlite.Value).Type", "(internal/reflectlite.Value).IsNil", "internal/reflectlite.TypeOf", "(internal/reflectlite.Value).Elem", "(internal/reflectlite.Value).Set"], unfollowed := true, recurses := true, named := ["unicode/utf8.first", "unicode/utf8.acceptRanges", "usance/mac.keys", "errors.errorType", "internal/bytealg.MaxLen"], apart := false, laid := [("unicode/utf8.acceptRanges", laid_unicode_utf8_acceptRanges), ("errors.errorType", laid_errors_errorType), ("usance/mac.keys", laid_usance_mac_keys), ("unicode/utf8.first", laid_unicode_utf8_first)] }
def OracleBytesSaid : Prop := oracleBytesRow.holds Tryz.pinned (OpenSpec.ofChange oracleBytesSpec)

/-- ITS FALSE NEIGHBOUR: 'it returns false'. Refute it at one input. -/
def oracleBytesWrong : ChangeSpec := { name := "oracleBytes", fn := fun _ => fun
  | [d1, d2, d3] => { results := [.lit (.bool false)], args := [d1, d2, d3] }
  | _ => none }
def OracleBytesWrongFalsely : Prop := oracleBytesRow.holds Tryz.pinned (OpenSpec.ofChange oracleBytesWrong)

/-- 'usancelaw21.OracleBack': WHATEVER THE INPUT: true; the input reads as it did. -/
def oracleBackSpec : ChangeSpec := { name := "oracleBack", fn := fun _ => fun
  | [d1, d2] => { results := [.lit (.bool true)], args := [d1, d2] }
  | _ => none }
def oracleBackRow : OpenClaim := { program := "ytmddaomchhigbaagreatdoor", sum := "0866df36861c677808eb22610bc6b7a89b5916975f1c77be318a9bd259e4d36c", func := "usance/usancelaw21.OracleBack", spec := "oracleBack", inPlace := ["internal/bytealg.IndexByteString", "internal/bytealg.IndexString", "internal/abi.NoEscape", "internal/bytealg.MakeNoZero", "internal/reflectlite.ValueOf", "(internal/reflectlite.Value).Type", "(internal/reflectlite.Value).IsNil", "internal/reflectlite.TypeOf", "(internal/reflectlite.Value).Elem", "(internal/reflectlite.Value).Set"], unfollowed := true, recurses := true, named := ["unicode/utf8.first", "unicode/utf8.acceptRanges", "usance/mac.keys", "errors.errorType", "internal/bytealg.MaxLen"], apart := false, laid := [("unicode/utf8.acceptRanges", laid_unicode_utf8_acceptRanges), ("errors.errorType", laid_errors_errorType), ("usance/mac.keys", laid_usance_mac_keys), ("unicode/utf8.first", laid_unicode_utf8_first)] }
def OracleBackSaid : Prop := oracleBackRow.holds Tryz.pinned (OpenSpec.ofChange oracleBackSpec)

/-- ITS FALSE NEIGHBOUR: 'it returns false'. Refute it at one input. -/
def oracleBackWrong : ChangeSpec := { name := "oracleBack", fn := fun _ => fun
  | [d1, d2] => { results := [.lit (.bool false)], args := [d1, d2] }
  | _ => none }
def OracleBackWrongFalsely : Prop := oracleBackRow.holds Tryz.pinned (OpenSpec.ofChange oracleBackWrong)

/-- 'usancelaw21.OracleDoes': WHATEVER THE INPUT: true; the input reads as it did. -/
def oracleDoesSpec : ChangeSpec := { name := "oracleDoes", fn := fun _ => fun
  | [d] => { results := [.lit (.bool true)], args := [d] }
  | _ => none }
def oracleDoesRow : OpenClaim := { program := "ytmddaomchhigbaagreatdoor", sum := "0866df36861c677808eb22610bc6b7a89b5916975f1c77be318a9bd259e4d36c", func := "usance/usancelaw21.OracleDoes", spec := "oracleDoes", inPlace := ["internal/bytealg.IndexByteString", "internal/bytealg.IndexString", "internal/abi.NoEscape", "internal/bytealg.MakeNoZero", "internal/reflectlite.ValueOf", "(internal/reflectlite.Value).Type", "(internal/reflectlite.Value).IsNil", "internal/reflectlite.TypeOf", "(internal/reflectlite.Value).Elem", "(internal/reflectlite.Value).Set"], unfollowed := true, recurses := true, named := ["unicode/utf8.first", "unicode/utf8.acceptRanges", "usance/mac.keys", "errors.errorType", "internal/bytealg.MaxLen"], apart := false, laid := [("unicode/utf8.acceptRanges", laid_unicode_utf8_acceptRanges), ("errors.errorType", laid_errors_errorType), ("usance/mac.keys", laid_usance_mac_keys), ("unicode/utf8.first", laid_unicode_utf8_first)] }
def OracleDoesSaid : Prop := oracleDoesRow.holds Tryz.pinned (OpenSpec.ofChange oracleDoesSpec)

/-- ITS FALSE NEIGHBOUR: 'it returns false'. Refute it at one input. -/
def oracleDoesWrong : ChangeSpec := { name := "oracleDoes", fn := fun _ => fun
  | [d] => { results := [.lit (.bool false)], args := [d] }
  | _ => none }
def OracleDoesWrongFalsely : Prop := oracleDoesRow.holds Tryz.pinned (OpenSpec.ofChange oracleDoesWrong)

/-- 'usancelaw21.OracleTakes': WHATEVER THE INPUT: true; the input reads as it did. -/
def oracleTakesSpec : ChangeSpec := { name := "oracleTakes", fn := fun _ => fun
  | [d1, d2, d3, d4] => { results := [.lit (.bool true)], args := [d1, d2, d3, d4] }
  | _ => none }
def oracleTakesRow : OpenClaim := { program := "ytmddaomchhigbaagreatdoor", sum := "0866df36861c677808eb22610bc6b7a89b5916975f1c77be318a9bd259e4d36c", func := "usance/usancelaw21.OracleTakes", spec := "oracleTakes", inPlace := ["internal/bytealg.IndexByteString", "internal/bytealg.IndexString", "internal/abi.NoEscape", "internal/bytealg.MakeNoZero", "internal/reflectlite.ValueOf", "(internal/reflectlite.Value).Type", "(internal/reflectlite.Value).IsNil", "internal/reflectlite.TypeOf", "(internal/reflectlite.Value).Elem", "(internal/reflectlite.Value).Set"], unfollowed := true, recurses := true, named := ["unicode/utf8.first", "unicode/utf8.acceptRanges", "usance/mac.keys", "errors.errorType", "internal/bytealg.MaxLen"], apart := false, laid := [("unicode/utf8.acceptRanges", laid_unicode_utf8_acceptRanges), ("errors.errorType", laid_errors_errorType), ("usance/mac.keys", laid_usance_mac_keys), ("unicode/utf8.first", laid_unicode_utf8_first)] }
def OracleTakesSaid : Prop := oracleTakesRow.holds Tryz.pinned (OpenSpec.ofChange oracleTakesSpec)

/-- ITS FALSE NEIGHBOUR: 'it returns false'. Refute it at one input. -/
def oracleTakesWrong : ChangeSpec := { name := "oracleTakes", fn := fun _ => fun
  | [d1, d2, d3, d4] => { results := [.lit (.bool false)], args := [d1, d2, d3, d4] }
  | _ => none }
def OracleTakesWrongFalsely : Prop := oracleTakesRow.holds Tryz.pinned (OpenSpec.ofChange oracleTakesWrong)

/-- 'usancelaw21.OracleNone': WHATEVER THE INPUT: true; the input reads as it did. -/
def oracleNoneSpec : ChangeSpec := { name := "oracleNone", fn := fun _ => fun
  | [d1, d2, d3] => { results := [.lit (.bool true)], args := [d1, d2, d3] }
  | _ => none }
def oracleNoneRow : OpenClaim := { program := "ytmddaomchhigbaagreatdoor", sum := "0866df36861c677808eb22610bc6b7a89b5916975f1c77be318a9bd259e4d36c", func := "usance/usancelaw21.OracleNone", spec := "oracleNone", inPlace := ["internal/bytealg.IndexByteString", "internal/bytealg.IndexString", "internal/abi.NoEscape", "internal/bytealg.MakeNoZero", "internal/reflectlite.ValueOf", "(internal/reflectlite.Value).Type", "(internal/reflectlite.Value).IsNil", "internal/reflectlite.TypeOf", "(internal/reflectlite.Value).Elem", "(internal/reflectlite.Value).Set"], unfollowed := true, recurses := true, named := ["unicode/utf8.first", "unicode/utf8.acceptRanges", "usance/mac.keys", "errors.errorType", "internal/bytealg.MaxLen"], apart := false, laid := [("unicode/utf8.acceptRanges", laid_unicode_utf8_acceptRanges), ("errors.errorType", laid_errors_errorType), ("usance/mac.keys", laid_usance_mac_keys), ("unicode/utf8.first", laid_unicode_utf8_first)] }
def OracleNoneSaid : Prop := oracleNoneRow.holds Tryz.pinned (OpenSpec.ofChange oracleNoneSpec)

/-- ITS FALSE NEIGHBOUR: 'it returns false'. Refute it at one input. -/
def oracleNoneWrong : ChangeSpec := { name := "oracleNone", fn := fun _ => fun
  | [d1, d2, d3] => { results := [.lit (.bool false)], args := [d1, d2, d3] }
  | _ => none }
def OracleNoneWrongFalsely : Prop := oracleNoneRow.holds Tryz.pinned (OpenSpec.ofChange oracleNoneWrong)

/-- 'usancelaw21.OracleApart': WHATEVER THE INPUT: true; the input reads as it did. -/
def oracleApartSpec : ChangeSpec := { name := "oracleApart", fn := fun _ => fun
  | [d1, d2] => { results := [.lit (.bool true)], args := [d1, d2] }
  | _ => none }
def oracleApartRow : OpenClaim := { program := "ytmddaomchhigbaagreatdoor", sum := "0866df36861c677808eb22610bc6b7a89b5916975f1c77be318a9bd259e4d36c", func := "usance/usancelaw21.OracleApart", spec := "oracleApart", inPlace := ["internal/bytealg.IndexByteString", "internal/bytealg.IndexString", "internal/abi.NoEscape", "internal/bytealg.MakeNoZero", "internal/reflectlite.ValueOf", "(internal/reflectlite.Value).Type", "(internal/reflectlite.Value).IsNil", "internal/reflectlite.TypeOf", "(internal/reflectlite.Value).Elem", "(internal/reflectlite.Value).Set"], unfollowed := true, recurses := true, named := ["unicode/utf8.first", "unicode/utf8.acceptRanges", "usance/mac.keys", "errors.errorType", "internal/bytealg.MaxLen"], apart := false, laid := [("unicode/utf8.acceptRanges", laid_unicode_utf8_acceptRanges), ("errors.errorType", laid_errors_errorType), ("usance/mac.keys", laid_usance_mac_keys), ("unicode/utf8.first", laid_unicode_utf8_first)] }
def OracleApartSaid : Prop := oracleApartRow.holds Tryz.pinned (OpenSpec.ofChange oracleApartSpec)

/-- ITS FALSE NEIGHBOUR: 'it returns false'. Refute it at one input. -/
def oracleApartWrong : ChangeSpec := { name := "oracleApart", fn := fun _ => fun
  | [d1, d2] => { results := [.lit (.bool false)], args := [d1, d2] }
  | _ => none }
def OracleApartWrongFalsely : Prop := oracleApartRow.holds Tryz.pinned (OpenSpec.ofChange oracleApartWrong)

/- THE SECOND FORM. 'bulk': how many values and letters a reading holds, each counted each time it is reached (what is shared counts as often as it is met; a slice's spare places count too). A statement '..UptoSaid' is the law's where the arguments, and the package variables that the reading takes, are together of bulk at most 1048576: NARROWER than '..Said'. Prove '..Said' where nothing that the law and all that it calls make is longer than what came in: it says more and counts as full. Else prove '..UptoSaid'. A law counts once. -/
mutual
def uptoBulk {H : Type} : DataW H → Nat
  | .lit (.string bytes) => bytes.length + 1
  | .lit _ => 1
  | .nil => 1
  | .ptr d => uptoBulk d + 1
  | .slice elems spare => uptoBulkAll elems + uptoBulkAll spare + 1
  | .agg parts => uptoBulkAll parts + 1
  | .iface _ d => uptoBulk d + 1
  | .map entries => uptoBulkEntries entries + 1
  | .held _ => 1
def uptoBulkAll {H : Type} : List (DataW H) → Nat
  | [] => 0
  | d :: r => uptoBulk d + uptoBulkAll r
def uptoBulkEntries {H : Type} : List (Lit × DataW H) → Nat
  | [] => 0
  | x :: r => uptoBulkEntry x + uptoBulkEntries r
def uptoBulkEntry {H : Type} : Lit × DataW H → Nat
  | (.string bytes, d) => bytes.length + uptoBulk d + 1
  | (_, d) => uptoBulk d + 1
 end
def uptoSmall : (H : Type) → List (DataW H) → Bool := fun _ ds => decide (uptoBulkAll ds ≤ 1048576)
def OpenSpec.upto (s : _root_.Go.ChangeSpec) : _root_.Go.OpenSpec := { _root_.Go.OpenSpec.ofChange s with cond := some uptoSmall }

/-- 'usancelaw21.OracleBytes', WHERE WHAT IT READS IS OF BULK AT MOST 1048576: true; the input reads as it did. -/
def oracleBytesUptoRow : OpenClaim := { program := "ytmddaomchhigbaagreatdoor", sum := "0866df36861c677808eb22610bc6b7a89b5916975f1c77be318a9bd259e4d36c", func := "usance/usancelaw21.OracleBytes", spec := "oracleBytes", inPlace := ["internal/bytealg.IndexByteString", "internal/bytealg.IndexString", "internal/abi.NoEscape", "internal/bytealg.MakeNoZero", "internal/reflectlite.ValueOf", "(internal/reflectlite.Value).Type", "(internal/reflectlite.Value).IsNil", "internal/reflectlite.TypeOf", "(internal/reflectlite.Value).Elem", "(internal/reflectlite.Value).Set"], unfollowed := true, recurses := true, named := ["unicode/utf8.first", "unicode/utf8.acceptRanges", "usance/mac.keys", "errors.errorType", "internal/bytealg.MaxLen"], apart := false, laid := [("unicode/utf8.acceptRanges", laid_unicode_utf8_acceptRanges), ("errors.errorType", laid_errors_errorType), ("usance/mac.keys", laid_usance_mac_keys), ("unicode/utf8.first", laid_unicode_utf8_first)], narrowed := true }
def OracleBytesUptoSaid : Prop := oracleBytesUptoRow.holds Tryz.pinned (OpenSpec.upto oracleBytesSpec)

/-- 'usancelaw21.OracleBack', WHERE WHAT IT READS IS OF BULK AT MOST 1048576: true; the input reads as it did. -/
def oracleBackUptoRow : OpenClaim := { program := "ytmddaomchhigbaagreatdoor", sum := "0866df36861c677808eb22610bc6b7a89b5916975f1c77be318a9bd259e4d36c", func := "usance/usancelaw21.OracleBack", spec := "oracleBack", inPlace := ["internal/bytealg.IndexByteString", "internal/bytealg.IndexString", "internal/abi.NoEscape", "internal/bytealg.MakeNoZero", "internal/reflectlite.ValueOf", "(internal/reflectlite.Value).Type", "(internal/reflectlite.Value).IsNil", "internal/reflectlite.TypeOf", "(internal/reflectlite.Value).Elem", "(internal/reflectlite.Value).Set"], unfollowed := true, recurses := true, named := ["unicode/utf8.first", "unicode/utf8.acceptRanges", "usance/mac.keys", "errors.errorType", "internal/bytealg.MaxLen"], apart := false, laid := [("unicode/utf8.acceptRanges", laid_unicode_utf8_acceptRanges), ("errors.errorType", laid_errors_errorType), ("usance/mac.keys", laid_usance_mac_keys), ("unicode/utf8.first", laid_unicode_utf8_first)], narrowed := true }
def OracleBackUptoSaid : Prop := oracleBackUptoRow.holds Tryz.pinned (OpenSpec.upto oracleBackSpec)

/-- 'usancelaw21.OracleDoes', WHERE WHAT IT READS IS OF BULK AT MOST 1048576: true; the input reads as it did. -/
def oracleDoesUptoRow : OpenClaim := { program := "ytmddaomchhigbaagreatdoor", sum := "0866df36861c677808eb22610bc6b7a89b5916975f1c77be318a9bd259e4d36c", func := "usance/usancelaw21.OracleDoes", spec := "oracleDoes", inPlace := ["internal/bytealg.IndexByteString", "internal/bytealg.IndexString", "internal/abi.NoEscape", "internal/bytealg.MakeNoZero", "internal/reflectlite.ValueOf", "(internal/reflectlite.Value).Type", "(internal/reflectlite.Value).IsNil", "internal/reflectlite.TypeOf", "(internal/reflectlite.Value).Elem", "(internal/reflectlite.Value).Set"], unfollowed := true, recurses := true, named := ["unicode/utf8.first", "unicode/utf8.acceptRanges", "usance/mac.keys", "errors.errorType", "internal/bytealg.MaxLen"], apart := false, laid := [("unicode/utf8.acceptRanges", laid_unicode_utf8_acceptRanges), ("errors.errorType", laid_errors_errorType), ("usance/mac.keys", laid_usance_mac_keys), ("unicode/utf8.first", laid_unicode_utf8_first)], narrowed := true }
def OracleDoesUptoSaid : Prop := oracleDoesUptoRow.holds Tryz.pinned (OpenSpec.upto oracleDoesSpec)

/-- 'usancelaw21.OracleTakes', WHERE WHAT IT READS IS OF BULK AT MOST 1048576: true; the input reads as it did. -/
def oracleTakesUptoRow : OpenClaim := { program := "ytmddaomchhigbaagreatdoor", sum := "0866df36861c677808eb22610bc6b7a89b5916975f1c77be318a9bd259e4d36c", func := "usance/usancelaw21.OracleTakes", spec := "oracleTakes", inPlace := ["internal/bytealg.IndexByteString", "internal/bytealg.IndexString", "internal/abi.NoEscape", "internal/bytealg.MakeNoZero", "internal/reflectlite.ValueOf", "(internal/reflectlite.Value).Type", "(internal/reflectlite.Value).IsNil", "internal/reflectlite.TypeOf", "(internal/reflectlite.Value).Elem", "(internal/reflectlite.Value).Set"], unfollowed := true, recurses := true, named := ["unicode/utf8.first", "unicode/utf8.acceptRanges", "usance/mac.keys", "errors.errorType", "internal/bytealg.MaxLen"], apart := false, laid := [("unicode/utf8.acceptRanges", laid_unicode_utf8_acceptRanges), ("errors.errorType", laid_errors_errorType), ("usance/mac.keys", laid_usance_mac_keys), ("unicode/utf8.first", laid_unicode_utf8_first)], narrowed := true }
def OracleTakesUptoSaid : Prop := oracleTakesUptoRow.holds Tryz.pinned (OpenSpec.upto oracleTakesSpec)

/-- 'usancelaw21.OracleNone', WHERE WHAT IT READS IS OF BULK AT MOST 1048576: true; the input reads as it did. -/
def oracleNoneUptoRow : OpenClaim := { program := "ytmddaomchhigbaagreatdoor", sum := "0866df36861c677808eb22610bc6b7a89b5916975f1c77be318a9bd259e4d36c", func := "usance/usancelaw21.OracleNone", spec := "oracleNone", inPlace := ["internal/bytealg.IndexByteString", "internal/bytealg.IndexString", "internal/abi.NoEscape", "internal/bytealg.MakeNoZero", "internal/reflectlite.ValueOf", "(internal/reflectlite.Value).Type", "(internal/reflectlite.Value).IsNil", "internal/reflectlite.TypeOf", "(internal/reflectlite.Value).Elem", "(internal/reflectlite.Value).Set"], unfollowed := true, recurses := true, named := ["unicode/utf8.first", "unicode/utf8.acceptRanges", "usance/mac.keys", "errors.errorType", "internal/bytealg.MaxLen"], apart := false, laid := [("unicode/utf8.acceptRanges", laid_unicode_utf8_acceptRanges), ("errors.errorType", laid_errors_errorType), ("usance/mac.keys", laid_usance_mac_keys), ("unicode/utf8.first", laid_unicode_utf8_first)], narrowed := true }
def OracleNoneUptoSaid : Prop := oracleNoneUptoRow.holds Tryz.pinned (OpenSpec.upto oracleNoneSpec)

/-- 'usancelaw21.OracleApart', WHERE WHAT IT READS IS OF BULK AT MOST 1048576: true; the input reads as it did. -/
def oracleApartUptoRow : OpenClaim := { program := "ytmddaomchhigbaagreatdoor", sum := "0866df36861c677808eb22610bc6b7a89b5916975f1c77be318a9bd259e4d36c", func := "usance/usancelaw21.OracleApart", spec := "oracleApart", inPlace := ["internal/bytealg.IndexByteString", "internal/bytealg.IndexString", "internal/abi.NoEscape", "internal/bytealg.MakeNoZero", "internal/reflectlite.ValueOf", "(internal/reflectlite.Value).Type", "(internal/reflectlite.Value).IsNil", "internal/reflectlite.TypeOf", "(internal/reflectlite.Value).Elem", "(internal/reflectlite.Value).Set"], unfollowed := true, recurses := true, named := ["unicode/utf8.first", "unicode/utf8.acceptRanges", "usance/mac.keys", "errors.errorType", "internal/bytealg.MaxLen"], apart := false, laid := [("unicode/utf8.acceptRanges", laid_unicode_utf8_acceptRanges), ("errors.errorType", laid_errors_errorType), ("usance/mac.keys", laid_usance_mac_keys), ("unicode/utf8.first", laid_unicode_utf8_first)], narrowed := true }
def OracleApartUptoSaid : Prop := oracleApartUptoRow.holds Tryz.pinned (OpenSpec.upto oracleApartSpec)

end Rows
end Go.Proofs.YtmddaomchhigbaaGreatDoor
