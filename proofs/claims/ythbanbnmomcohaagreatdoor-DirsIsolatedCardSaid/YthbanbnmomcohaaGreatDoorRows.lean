/-
  NARROWER THAN 'FOR EVERY INPUT', by the rows' own cells (each row's printed sentence says how): DirsAll: laid · DirsSays: laid · DirsFirst: laid · DirsTells: laid · DirsIsolated: laid · DirsKnown: laid.
  DERIVED. THE GIVEN ROWS OF THIS SEAT. 6 by the template 'for every input the law returns true; each argument reads behind the call as it read before'; 0 by the template 'total and deterministic' (their statements: YthbanbnmomcohaaGreatDoorTotals.lean).
  GIVEN WITH THE SEED: the statements are not yours to turn. If you find one false, say at which input.
  Laid BY PROGRAM, IN A SANDBOX (cutbox-rows.mjs): the forced cells as the released guide's own fill.sh prints them over the translation b65bfb3a614c28a6… (all of the seat's roots in one cut). By AI agents, Wed Nov 11 2026. No macro, syntax, notation, axiom, sorry.
-/
import Derived.Test.YthbanbnmomcohaaGreatDoorChecked
import GoSem.PinnedTables
import GoSem.Claim
import GoSem.ClaimJoined
import GoSem.ClaimMapViews
import Derived.JoinedTies
import Derived.KernelRfl
namespace Go.Proofs.YthbanbnmomcohaaGreatDoor
/- THE CELL 'sum', in the pinned program and in every row, IS THE sha256 OF THE DUMP (.gsa) THAT YthbanbnmomcohaaGreatDoorProg.lean LOADS. Nothing in Lean hashes anything: it is a label: what it is worth is what the hold of that sum in a sandbox is worth. -/
noncomputable def Tryz.pinned : Pinned := { name := "ythbanbnmomcohaagreatdoor", sum := "b65bfb3a614c28a672eaddc8f0398ce8169be31a9c7196596bbcee54ddf69ff7", checked := Tryz.checked }
namespace Rows
def none {H : Type} : Left H := { results := [], args := [] }

/- WHAT THE LISTED PACKAGE-LEVEL VARIABLES READ AS WHEN THE CALL BEGINS. Each datum BY PROGRAM (the guide's laid-datum.mjs) off the statement by which the dump's own 'gosem.cut.vars' lays the variable. In a bare row this is a premise. The card (YthbanbnmomcohaaGreatDoorCards.lean) ties it to the program's text. -/
def laid_unicode_utf8_acceptRanges {H : Type} : DataW H := .agg [.agg [.lit (.int .u8 128), .lit (.int .u8 191)], .agg [.lit (.int .u8 160), .lit (.int .u8 191)], .agg [.lit (.int .u8 128), .lit (.int .u8 159)], .agg [.lit (.int .u8 144), .lit (.int .u8 191)], .agg [.lit (.int .u8 128), .lit (.int .u8 143)], .agg [.lit (.int .u8 0), .lit (.int .u8 0)], .agg [.lit (.int .u8 0), .lit (.int .u8 0)], .agg [.lit (.int .u8 0), .lit (.int .u8 0)], .agg [.lit (.int .u8 0), .lit (.int .u8 0)], .agg [.lit (.int .u8 0), .lit (.int .u8 0)], .agg [.lit (.int .u8 0), .lit (.int .u8 0)], .agg [.lit (.int .u8 0), .lit (.int .u8 0)], .agg [.lit (.int .u8 0), .lit (.int .u8 0)], .agg [.lit (.int .u8 0), .lit (.int .u8 0)], .agg [.lit (.int .u8 0), .lit (.int .u8 0)], .agg [.lit (.int .u8 0), .lit (.int .u8 0)]]
def laid_selvedge_charref_names {H : Type} : DataW H := .agg [.agg [.lit (.string [65, 77, 80]), .lit (.int .i32 38), .lit (.bool true)], .agg [.lit (.string [67, 79, 80, 89]), .lit (.int .i32 169), .lit (.bool true)], .agg [.lit (.string [71, 84]), .lit (.int .i32 62), .lit (.bool true)], .agg [.lit (.string [76, 84]), .lit (.int .i32 60), .lit (.bool true)], .agg [.lit (.string [81, 85, 79, 84]), .lit (.int .i32 34), .lit (.bool true)], .agg [.lit (.string [82, 69, 71]), .lit (.int .i32 174), .lit (.bool true)], .agg [.lit (.string [97, 109, 112]), .lit (.int .i32 38), .lit (.bool true)], .agg [.lit (.string [97, 112, 111, 115]), .lit (.int .i32 39), .lit (.bool false)], .agg [.lit (.string [98, 117, 108, 108]), .lit (.int .i32 8226), .lit (.bool false)], .agg [.lit (.string [99, 101, 110, 116]), .lit (.int .i32 162), .lit (.bool true)], .agg [.lit (.string [99, 111, 112, 121]), .lit (.int .i32 169), .lit (.bool true)], .agg [.lit (.string [100, 97, 114, 114]), .lit (.int .i32 8595), .lit (.bool false)], .agg [.lit (.string [100, 101, 103]), .lit (.int .i32 176), .lit (.bool true)], .agg [.lit (.string [100, 105, 118, 105, 100, 101]), .lit (.int .i32 247), .lit (.bool true)], .agg [.lit (.string [101, 109, 115, 112]), .lit (.int .i32 8195), .lit (.bool false)], .agg [.lit (.string [101, 110, 115, 112]), .lit (.int .i32 8194), .lit (.bool false)], .agg [.lit (.string [101, 117, 114, 111]), .lit (.int .i32 8364), .lit (.bool false)], .agg [.lit (.string [103, 101]), .lit (.int .i32 8805), .lit (.bool false)], .agg [.lit (.string [103, 116]), .lit (.int .i32 62), .lit (.bool true)], .agg [.lit (.string [104, 101, 108, 108, 105, 112]), .lit (.int .i32 8230), .lit (.bool false)], .agg [.lit (.string [105, 110]), .lit (.int .i32 8712), .lit (.bool false)], .agg [.lit (.string [105, 110, 102, 105, 110]), .lit (.int .i32 8734), .lit (.bool false)], .agg [.lit (.string [108, 97, 110, 103]), .lit (.int .i32 10216), .lit (.bool false)], .agg [.lit (.string [108, 97, 113, 117, 111]), .lit (.int .i32 171), .lit (.bool true)], .agg [.lit (.string [108, 97, 114, 114]), .lit (.int .i32 8592), .lit (.bool false)], .agg [.lit (.string [108, 100, 113, 117, 111]), .lit (.int .i32 8220), .lit (.bool false)], .agg [.lit (.string [108, 101]), .lit (.int .i32 8804), .lit (.bool false)], .agg [.lit (.string [108, 114, 109]), .lit (.int .i32 8206), .lit (.bool false)], .agg [.lit (.string [108, 115, 97, 113, 117, 111]), .lit (.int .i32 8249), .lit (.bool false)], .agg [.lit (.string [108, 115, 113, 117, 111]), .lit (.int .i32 8216), .lit (.bool false)], .agg [.lit (.string [108, 116]), .lit (.int .i32 60), .lit (.bool true)], .agg [.lit (.string [109, 100, 97, 115, 104]), .lit (.int .i32 8212), .lit (.bool false)], .agg [.lit (.string [109, 105, 100, 100, 111, 116]), .lit (.int .i32 183), .lit (.bool true)], .agg [.lit (.string [109, 105, 110, 117, 115]), .lit (.int .i32 8722), .lit (.bool false)], .agg [.lit (.string [110, 98, 115, 112]), .lit (.int .i32 160), .lit (.bool true)], .agg [.lit (.string [110, 100, 97, 115, 104]), .lit (.int .i32 8211), .lit (.bool false)], .agg [.lit (.string [110, 101]), .lit (.int .i32 8800), .lit (.bool false)], .agg [.lit (.string [110, 111, 116]), .lit (.int .i32 172), .lit (.bool true)], .agg [.lit (.string [110, 111, 116, 105, 110]), .lit (.int .i32 8713), .lit (.bool false)], .agg [.lit (.string [112, 97, 114, 97]), .lit (.int .i32 182), .lit (.bool true)], .agg [.lit (.string [112, 108, 117, 115, 109, 110]), .lit (.int .i32 177), .lit (.bool true)], .agg [.lit (.string [112, 111, 117, 110, 100]), .lit (.int .i32 163), .lit (.bool true)], .agg [.lit (.string [113, 117, 111, 116]), .lit (.int .i32 34), .lit (.bool true)], .agg [.lit (.string [114, 97, 110, 103]), .lit (.int .i32 10217), .lit (.bool false)], .agg [.lit (.string [114, 97, 113, 117, 111]), .lit (.int .i32 187), .lit (.bool true)], .agg [.lit (.string [114, 97, 114, 114]), .lit (.int .i32 8594), .lit (.bool false)], .agg [.lit (.string [114, 100, 113, 117, 111]), .lit (.int .i32 8221), .lit (.bool false)], .agg [.lit (.string [114, 101, 103]), .lit (.int .i32 174), .lit (.bool true)], .agg [.lit (.string [114, 108, 109]), .lit (.int .i32 8207), .lit (.bool false)], .agg [.lit (.string [114, 115, 97, 113, 117, 111]), .lit (.int .i32 8250), .lit (.bool false)], .agg [.lit (.string [114, 115, 113, 117, 111]), .lit (.int .i32 8217), .lit (.bool false)], .agg [.lit (.string [115, 101, 99, 116]), .lit (.int .i32 167), .lit (.bool true)], .agg [.lit (.string [115, 104, 121]), .lit (.int .i32 173), .lit (.bool true)], .agg [.lit (.string [116, 104, 105, 110, 115, 112]), .lit (.int .i32 8201), .lit (.bool false)], .agg [.lit (.string [116, 105, 109, 101, 115]), .lit (.int .i32 215), .lit (.bool true)], .agg [.lit (.string [117, 97, 114, 114]), .lit (.int .i32 8593), .lit (.bool false)], .agg [.lit (.string [121, 101, 110]), .lit (.int .i32 165), .lit (.bool true)], .agg [.lit (.string [122, 119, 106]), .lit (.int .i32 8205), .lit (.bool false)], .agg [.lit (.string [122, 119, 110, 106]), .lit (.int .i32 8204), .lit (.bool false)]]
def laid_selvedge_charref_others {H : Type} : DataW H := .agg [.lit (.int .i32 8364), .lit (.int .i32 0), .lit (.int .i32 8218), .lit (.int .i32 402), .lit (.int .i32 8222), .lit (.int .i32 8230), .lit (.int .i32 8224), .lit (.int .i32 8225), .lit (.int .i32 710), .lit (.int .i32 8240), .lit (.int .i32 352), .lit (.int .i32 8249), .lit (.int .i32 338), .lit (.int .i32 0), .lit (.int .i32 381), .lit (.int .i32 0), .lit (.int .i32 0), .lit (.int .i32 8216), .lit (.int .i32 8217), .lit (.int .i32 8220), .lit (.int .i32 8221), .lit (.int .i32 8226), .lit (.int .i32 8211), .lit (.int .i32 8212), .lit (.int .i32 732), .lit (.int .i32 8482), .lit (.int .i32 353), .lit (.int .i32 8250), .lit (.int .i32 339), .lit (.int .i32 0), .lit (.int .i32 382), .lit (.int .i32 376)]
/-- One of Go's own tables, pinned by name: the form's constant. -/
def laid_unicode_utf8_first : DataW Unit := Go.Pinned.utf8First

/-- 'selvedgelaw10.DirsAll': WHATEVER THE INPUT: true; the input reads as it did. -/
def dirsAllSpec : ChangeSpec := { name := "dirsAll", fn := fun _ => fun
  | [d] => { results := [.lit (.bool true)], args := [d] }
  | _ => none }
def dirsAllRow : OpenClaim := { program := "ythbanbnmomcohaagreatdoor", sum := "b65bfb3a614c28a672eaddc8f0398ce8169be31a9c7196596bbcee54ddf69ff7", func := "selvedge/selvedgelaw10.DirsAll", spec := "dirsAll", inPlace := ["internal/abi.NoEscape", "internal/bytealg.IndexByteString", "internal/bytealg.abigen_runtime_cmpstring", "internal/bytealg.IndexString"], unfollowed := true, recurses := true, named := ["selvedge/charref.names", "selvedge/charref.others", "unicode/utf8.first", "unicode/utf8.acceptRanges", "internal/bytealg.MaxLen"], apart := false, laid := [("unicode/utf8.acceptRanges", laid_unicode_utf8_acceptRanges), ("selvedge/charref.names", laid_selvedge_charref_names), ("selvedge/charref.others", laid_selvedge_charref_others), ("unicode/utf8.first", laid_unicode_utf8_first)] }
def DirsAllSaid : Prop := dirsAllRow.holds Tryz.pinned (OpenSpec.ofChange dirsAllSpec)

/-- ITS FALSE NEIGHBOUR: 'it returns false'. Refute it at one input. -/
def dirsAllWrong : ChangeSpec := { name := "dirsAll", fn := fun _ => fun
  | [d] => { results := [.lit (.bool false)], args := [d] }
  | _ => none }
def DirsAllWrongFalsely : Prop := dirsAllRow.holds Tryz.pinned (OpenSpec.ofChange dirsAllWrong)

/-- 'selvedgelaw10.DirsSays': WHATEVER THE INPUT: true; the input reads as it did. -/
def dirsSaysSpec : ChangeSpec := { name := "dirsSays", fn := fun _ => fun
  | [d1, d2] => { results := [.lit (.bool true)], args := [d1, d2] }
  | _ => none }
def dirsSaysRow : OpenClaim := { program := "ythbanbnmomcohaagreatdoor", sum := "b65bfb3a614c28a672eaddc8f0398ce8169be31a9c7196596bbcee54ddf69ff7", func := "selvedge/selvedgelaw10.DirsSays", spec := "dirsSays", inPlace := ["internal/bytealg.IndexByteString", "internal/abi.NoEscape", "internal/bytealg.abigen_runtime_cmpstring", "internal/bytealg.IndexString"], unfollowed := true, recurses := true, named := ["unicode/utf8.first", "unicode/utf8.acceptRanges", "selvedge/charref.names", "selvedge/charref.others", "internal/bytealg.MaxLen"], apart := false, laid := [("unicode/utf8.acceptRanges", laid_unicode_utf8_acceptRanges), ("selvedge/charref.names", laid_selvedge_charref_names), ("selvedge/charref.others", laid_selvedge_charref_others), ("unicode/utf8.first", laid_unicode_utf8_first)] }
def DirsSaysSaid : Prop := dirsSaysRow.holds Tryz.pinned (OpenSpec.ofChange dirsSaysSpec)

/-- ITS FALSE NEIGHBOUR: 'it returns false'. Refute it at one input. -/
def dirsSaysWrong : ChangeSpec := { name := "dirsSays", fn := fun _ => fun
  | [d1, d2] => { results := [.lit (.bool false)], args := [d1, d2] }
  | _ => none }
def DirsSaysWrongFalsely : Prop := dirsSaysRow.holds Tryz.pinned (OpenSpec.ofChange dirsSaysWrong)

/-- 'selvedgelaw10.DirsFirst': WHATEVER THE INPUT: true; the input reads as it did. -/
def dirsFirstSpec : ChangeSpec := { name := "dirsFirst", fn := fun _ => fun
  | [d1, d2] => { results := [.lit (.bool true)], args := [d1, d2] }
  | _ => none }
def dirsFirstRow : OpenClaim := { program := "ythbanbnmomcohaagreatdoor", sum := "b65bfb3a614c28a672eaddc8f0398ce8169be31a9c7196596bbcee54ddf69ff7", func := "selvedge/selvedgelaw10.DirsFirst", spec := "dirsFirst", inPlace := ["internal/bytealg.IndexByteString", "internal/abi.NoEscape", "internal/bytealg.abigen_runtime_cmpstring", "internal/bytealg.IndexString"], unfollowed := true, recurses := true, named := ["unicode/utf8.first", "unicode/utf8.acceptRanges", "selvedge/charref.names", "selvedge/charref.others", "internal/bytealg.MaxLen"], apart := false, laid := [("unicode/utf8.acceptRanges", laid_unicode_utf8_acceptRanges), ("selvedge/charref.names", laid_selvedge_charref_names), ("selvedge/charref.others", laid_selvedge_charref_others), ("unicode/utf8.first", laid_unicode_utf8_first)] }
def DirsFirstSaid : Prop := dirsFirstRow.holds Tryz.pinned (OpenSpec.ofChange dirsFirstSpec)

/-- ITS FALSE NEIGHBOUR: 'it returns false'. Refute it at one input. -/
def dirsFirstWrong : ChangeSpec := { name := "dirsFirst", fn := fun _ => fun
  | [d1, d2] => { results := [.lit (.bool false)], args := [d1, d2] }
  | _ => none }
def DirsFirstWrongFalsely : Prop := dirsFirstRow.holds Tryz.pinned (OpenSpec.ofChange dirsFirstWrong)

/-- 'selvedgelaw10.DirsTells': WHATEVER THE INPUT: true; the input reads as it did. -/
def dirsTellsSpec : ChangeSpec := { name := "dirsTells", fn := fun _ => fun
  | [d1, d2] => { results := [.lit (.bool true)], args := [d1, d2] }
  | _ => none }
def dirsTellsRow : OpenClaim := { program := "ythbanbnmomcohaagreatdoor", sum := "b65bfb3a614c28a672eaddc8f0398ce8169be31a9c7196596bbcee54ddf69ff7", func := "selvedge/selvedgelaw10.DirsTells", spec := "dirsTells", inPlace := ["internal/abi.NoEscape", "internal/bytealg.IndexByteString", "internal/bytealg.abigen_runtime_cmpstring", "internal/bytealg.IndexString"], unfollowed := true, recurses := true, named := ["selvedge/charref.names", "selvedge/charref.others", "unicode/utf8.first", "unicode/utf8.acceptRanges", "internal/bytealg.MaxLen"], apart := false, laid := [("unicode/utf8.acceptRanges", laid_unicode_utf8_acceptRanges), ("selvedge/charref.names", laid_selvedge_charref_names), ("selvedge/charref.others", laid_selvedge_charref_others), ("unicode/utf8.first", laid_unicode_utf8_first)] }
def DirsTellsSaid : Prop := dirsTellsRow.holds Tryz.pinned (OpenSpec.ofChange dirsTellsSpec)

/-- ITS FALSE NEIGHBOUR: 'it returns false'. Refute it at one input. -/
def dirsTellsWrong : ChangeSpec := { name := "dirsTells", fn := fun _ => fun
  | [d1, d2] => { results := [.lit (.bool false)], args := [d1, d2] }
  | _ => none }
def DirsTellsWrongFalsely : Prop := dirsTellsRow.holds Tryz.pinned (OpenSpec.ofChange dirsTellsWrong)

/-- 'selvedgelaw10.DirsIsolated': WHATEVER THE INPUT: true; the input reads as it did. -/
def dirsIsolatedSpec : ChangeSpec := { name := "dirsIsolated", fn := fun _ => fun
  | [d1, d2, d3] => { results := [.lit (.bool true)], args := [d1, d2, d3] }
  | _ => none }
def dirsIsolatedRow : OpenClaim := { program := "ythbanbnmomcohaagreatdoor", sum := "b65bfb3a614c28a672eaddc8f0398ce8169be31a9c7196596bbcee54ddf69ff7", func := "selvedge/selvedgelaw10.DirsIsolated", spec := "dirsIsolated", inPlace := ["internal/bytealg.IndexByteString", "internal/abi.NoEscape", "internal/bytealg.abigen_runtime_cmpstring", "internal/bytealg.IndexString"], unfollowed := true, recurses := true, named := ["unicode/utf8.first", "unicode/utf8.acceptRanges", "selvedge/charref.names", "selvedge/charref.others", "internal/bytealg.MaxLen"], apart := false, laid := [("unicode/utf8.acceptRanges", laid_unicode_utf8_acceptRanges), ("selvedge/charref.names", laid_selvedge_charref_names), ("selvedge/charref.others", laid_selvedge_charref_others), ("unicode/utf8.first", laid_unicode_utf8_first)] }
def DirsIsolatedSaid : Prop := dirsIsolatedRow.holds Tryz.pinned (OpenSpec.ofChange dirsIsolatedSpec)

/-- ITS FALSE NEIGHBOUR: 'it returns false'. Refute it at one input. -/
def dirsIsolatedWrong : ChangeSpec := { name := "dirsIsolated", fn := fun _ => fun
  | [d1, d2, d3] => { results := [.lit (.bool false)], args := [d1, d2, d3] }
  | _ => none }
def DirsIsolatedWrongFalsely : Prop := dirsIsolatedRow.holds Tryz.pinned (OpenSpec.ofChange dirsIsolatedWrong)

/-- 'selvedgelaw10.DirsKnown': WHATEVER THE INPUT: true; the input reads as it did. -/
def dirsKnownSpec : ChangeSpec := { name := "dirsKnown", fn := fun _ => fun
  | [] => { results := [.lit (.bool true)], args := [] }
  | _ => none }
def dirsKnownRow : OpenClaim := { program := "ythbanbnmomcohaagreatdoor", sum := "b65bfb3a614c28a672eaddc8f0398ce8169be31a9c7196596bbcee54ddf69ff7", func := "selvedge/selvedgelaw10.DirsKnown", spec := "dirsKnown", inPlace := ["internal/abi.NoEscape", "internal/bytealg.IndexByteString", "internal/bytealg.abigen_runtime_cmpstring", "internal/bytealg.IndexString"], unfollowed := true, recurses := true, named := ["selvedge/charref.names", "selvedge/charref.others", "unicode/utf8.first", "unicode/utf8.acceptRanges", "internal/bytealg.MaxLen"], apart := false, laid := [("unicode/utf8.acceptRanges", laid_unicode_utf8_acceptRanges), ("selvedge/charref.names", laid_selvedge_charref_names), ("selvedge/charref.others", laid_selvedge_charref_others), ("unicode/utf8.first", laid_unicode_utf8_first)] }
def DirsKnownSaid : Prop := dirsKnownRow.holds Tryz.pinned (OpenSpec.ofChange dirsKnownSpec)

/-- ITS FALSE NEIGHBOUR: 'it returns false'. Refute it at one input. -/
def dirsKnownWrong : ChangeSpec := { name := "dirsKnown", fn := fun _ => fun
  | [] => { results := [.lit (.bool false)], args := [] }
  | _ => none }
def DirsKnownWrongFalsely : Prop := dirsKnownRow.holds Tryz.pinned (OpenSpec.ofChange dirsKnownWrong)

/- THE SECOND FORM. 'bulk': how many values and letters a reading holds, each counted each time it is reached (what is shared counts as often as it is met; a slice's spare places count too). A statement '..UptoSaid' is the law's where the arguments, and the package variables that the reading takes, are together of bulk at most 1048576: NARROWER than '..Said'. Prove '..Said' where nothing that the law and all that it calls make is longer than what came in: it says more and counts as full. Else prove '..UptoSaid'. A law counts once. -/
mutual
def uptoBulk {H : Type} : DataW H → Nat
  | .lit (.string bytes) => bytes.length + 1
  | .lit _ => 1
  | .nil => 1
  | .ptr d => uptoBulk d + 1
  | .slice elems spare => uptoBulkAll elems + uptoBulkAll spare + 1
  | .agg parts => uptoBulkAll parts + 1
  | .iface _ d => uptoBulk d + 1
  | .map entries => uptoBulkEntries entries + 1
  | .held _ => 1
def uptoBulkAll {H : Type} : List (DataW H) → Nat
  | [] => 0
  | d :: r => uptoBulk d + uptoBulkAll r
def uptoBulkEntries {H : Type} : List (Lit × DataW H) → Nat
  | [] => 0
  | x :: r => uptoBulkEntry x + uptoBulkEntries r
def uptoBulkEntry {H : Type} : Lit × DataW H → Nat
  | (.string bytes, d) => bytes.length + uptoBulk d + 1
  | (_, d) => uptoBulk d + 1
 end
def uptoSmall : (H : Type) → List (DataW H) → Bool := fun _ ds => decide (uptoBulkAll ds ≤ 1048576)
def OpenSpec.upto (s : _root_.Go.ChangeSpec) : _root_.Go.OpenSpec := { _root_.Go.OpenSpec.ofChange s with cond := some uptoSmall }

/-- 'selvedgelaw10.DirsAll', WHERE WHAT IT READS IS OF BULK AT MOST 1048576: true; the input reads as it did. -/
def dirsAllUptoRow : OpenClaim := { program := "ythbanbnmomcohaagreatdoor", sum := "b65bfb3a614c28a672eaddc8f0398ce8169be31a9c7196596bbcee54ddf69ff7", func := "selvedge/selvedgelaw10.DirsAll", spec := "dirsAll", inPlace := ["internal/abi.NoEscape", "internal/bytealg.IndexByteString", "internal/bytealg.abigen_runtime_cmpstring", "internal/bytealg.IndexString"], unfollowed := true, recurses := true, named := ["selvedge/charref.names", "selvedge/charref.others", "unicode/utf8.first", "unicode/utf8.acceptRanges", "internal/bytealg.MaxLen"], apart := false, laid := [("unicode/utf8.acceptRanges", laid_unicode_utf8_acceptRanges), ("selvedge/charref.names", laid_selvedge_charref_names), ("selvedge/charref.others", laid_selvedge_charref_others), ("unicode/utf8.first", laid_unicode_utf8_first)], narrowed := true }
def DirsAllUptoSaid : Prop := dirsAllUptoRow.holds Tryz.pinned (OpenSpec.upto dirsAllSpec)

/-- 'selvedgelaw10.DirsSays', WHERE WHAT IT READS IS OF BULK AT MOST 1048576: true; the input reads as it did. -/
def dirsSaysUptoRow : OpenClaim := { program := "ythbanbnmomcohaagreatdoor", sum := "b65bfb3a614c28a672eaddc8f0398ce8169be31a9c7196596bbcee54ddf69ff7", func := "selvedge/selvedgelaw10.DirsSays", spec := "dirsSays", inPlace := ["internal/bytealg.IndexByteString", "internal/abi.NoEscape", "internal/bytealg.abigen_runtime_cmpstring", "internal/bytealg.IndexString"], unfollowed := true, recurses := true, named := ["unicode/utf8.first", "unicode/utf8.acceptRanges", "selvedge/charref.names", "selvedge/charref.others", "internal/bytealg.MaxLen"], apart := false, laid := [("unicode/utf8.acceptRanges", laid_unicode_utf8_acceptRanges), ("selvedge/charref.names", laid_selvedge_charref_names), ("selvedge/charref.others", laid_selvedge_charref_others), ("unicode/utf8.first", laid_unicode_utf8_first)], narrowed := true }
def DirsSaysUptoSaid : Prop := dirsSaysUptoRow.holds Tryz.pinned (OpenSpec.upto dirsSaysSpec)

/-- 'selvedgelaw10.DirsFirst', WHERE WHAT IT READS IS OF BULK AT MOST 1048576: true; the input reads as it did. -/
def dirsFirstUptoRow : OpenClaim := { program := "ythbanbnmomcohaagreatdoor", sum := "b65bfb3a614c28a672eaddc8f0398ce8169be31a9c7196596bbcee54ddf69ff7", func := "selvedge/selvedgelaw10.DirsFirst", spec := "dirsFirst", inPlace := ["internal/bytealg.IndexByteString", "internal/abi.NoEscape", "internal/bytealg.abigen_runtime_cmpstring", "internal/bytealg.IndexString"], unfollowed := true, recurses := true, named := ["unicode/utf8.first", "unicode/utf8.acceptRanges", "selvedge/charref.names", "selvedge/charref.others", "internal/bytealg.MaxLen"], apart := false, laid := [("unicode/utf8.acceptRanges", laid_unicode_utf8_acceptRanges), ("selvedge/charref.names", laid_selvedge_charref_names), ("selvedge/charref.others", laid_selvedge_charref_others), ("unicode/utf8.first", laid_unicode_utf8_first)], narrowed := true }
def DirsFirstUptoSaid : Prop := dirsFirstUptoRow.holds Tryz.pinned (OpenSpec.upto dirsFirstSpec)

/-- 'selvedgelaw10.DirsTells', WHERE WHAT IT READS IS OF BULK AT MOST 1048576: true; the input reads as it did. -/
def dirsTellsUptoRow : OpenClaim := { program := "ythbanbnmomcohaagreatdoor", sum := "b65bfb3a614c28a672eaddc8f0398ce8169be31a9c7196596bbcee54ddf69ff7", func := "selvedge/selvedgelaw10.DirsTells", spec := "dirsTells", inPlace := ["internal/abi.NoEscape", "internal/bytealg.IndexByteString", "internal/bytealg.abigen_runtime_cmpstring", "internal/bytealg.IndexString"], unfollowed := true, recurses := true, named := ["selvedge/charref.names", "selvedge/charref.others", "unicode/utf8.first", "unicode/utf8.acceptRanges", "internal/bytealg.MaxLen"], apart := false, laid := [("unicode/utf8.acceptRanges", laid_unicode_utf8_acceptRanges), ("selvedge/charref.names", laid_selvedge_charref_names), ("selvedge/charref.others", laid_selvedge_charref_others), ("unicode/utf8.first", laid_unicode_utf8_first)], narrowed := true }
def DirsTellsUptoSaid : Prop := dirsTellsUptoRow.holds Tryz.pinned (OpenSpec.upto dirsTellsSpec)

/-- 'selvedgelaw10.DirsIsolated', WHERE WHAT IT READS IS OF BULK AT MOST 1048576: true; the input reads as it did. -/
def dirsIsolatedUptoRow : OpenClaim := { program := "ythbanbnmomcohaagreatdoor", sum := "b65bfb3a614c28a672eaddc8f0398ce8169be31a9c7196596bbcee54ddf69ff7", func := "selvedge/selvedgelaw10.DirsIsolated", spec := "dirsIsolated", inPlace := ["internal/bytealg.IndexByteString", "internal/abi.NoEscape", "internal/bytealg.abigen_runtime_cmpstring", "internal/bytealg.IndexString"], unfollowed := true, recurses := true, named := ["unicode/utf8.first", "unicode/utf8.acceptRanges", "selvedge/charref.names", "selvedge/charref.others", "internal/bytealg.MaxLen"], apart := false, laid := [("unicode/utf8.acceptRanges", laid_unicode_utf8_acceptRanges), ("selvedge/charref.names", laid_selvedge_charref_names), ("selvedge/charref.others", laid_selvedge_charref_others), ("unicode/utf8.first", laid_unicode_utf8_first)], narrowed := true }
def DirsIsolatedUptoSaid : Prop := dirsIsolatedUptoRow.holds Tryz.pinned (OpenSpec.upto dirsIsolatedSpec)

/-- 'selvedgelaw10.DirsKnown', WHERE WHAT IT READS IS OF BULK AT MOST 1048576: true; the input reads as it did. -/
def dirsKnownUptoRow : OpenClaim := { program := "ythbanbnmomcohaagreatdoor", sum := "b65bfb3a614c28a672eaddc8f0398ce8169be31a9c7196596bbcee54ddf69ff7", func := "selvedge/selvedgelaw10.DirsKnown", spec := "dirsKnown", inPlace := ["internal/abi.NoEscape", "internal/bytealg.IndexByteString", "internal/bytealg.abigen_runtime_cmpstring", "internal/bytealg.IndexString"], unfollowed := true, recurses := true, named := ["selvedge/charref.names", "selvedge/charref.others", "unicode/utf8.first", "unicode/utf8.acceptRanges", "internal/bytealg.MaxLen"], apart := false, laid := [("unicode/utf8.acceptRanges", laid_unicode_utf8_acceptRanges), ("selvedge/charref.names", laid_selvedge_charref_names), ("selvedge/charref.others", laid_selvedge_charref_others), ("unicode/utf8.first", laid_unicode_utf8_first)], narrowed := true }
def DirsKnownUptoSaid : Prop := dirsKnownUptoRow.holds Tryz.pinned (OpenSpec.upto dirsKnownSpec)

end Rows
end Go.Proofs.YthbanbnmomcohaaGreatDoor
