/- What functions of the program come to on the abstract machine, and that they do so; printed by a program of mine around proofs of mine. -/
import Derived.Test.YtbnplefohfamnaaProg
import Derived.Test.YtbnplefohfamnaaFFnExactDenoiseExt
import Derived.Test.YtbnplefohfamnaaFFnExactDenoiseKe
import Derived.Test.YtbnplefohfamnaaFFnExactDenoiseLv
import Derived.Test.YtbnplefohfamnaaFFnExactDenoiseOl
set_option linter.unusedVariables false
set_option linter.unusedSimpArgs false
set_option linter.defProp false
set_option maxRecDepth 100000
set_option maxHeartbeats 1000000
namespace Go.Proofs.Ytbnplefohfamnaa.Ai
open Go
attribute [local irreducible] bodyK bodyL
theorem mix_ok : Try.prog.follows .mixedOrders = true := by kernel_rfl
abbrev OA := Option Addr
abbrev LN := List Nat
abbrev ud2 (l : List Value) : List Value := ud :: ud :: l
abbrev ud3 (l : List Value) : List Value := ud :: ud :: ud :: l
abbrev ud4 (l : List Value) : List Value := ud :: ud :: ud :: ud :: l
abbrev ud5 (l : List Value) : List Value := ud :: ud :: ud :: ud :: ud :: l
abbrev ud6 (l : List Value) : List Value := ud :: ud :: ud :: ud :: ud :: ud :: l
abbrev ud7 (l : List Value) : List Value := ud :: ud :: ud :: ud :: ud :: ud :: ud :: l
abbrev ud8 (l : List Value) : List Value := ud :: ud :: ud :: ud :: ud :: ud :: ud :: ud :: l
abbrev ud9 (l : List Value) : List Value := ud :: ud :: ud :: ud :: ud :: ud :: ud :: ud :: ud :: l
abbrev ud10 (l : List Value) : List Value := ud :: ud :: ud :: ud :: ud :: ud :: ud :: ud :: ud :: ud :: l
abbrev ud11 (l : List Value) : List Value := ud :: ud :: ud :: ud :: ud :: ud :: ud :: ud :: ud :: ud :: ud :: l
abbrev ud12 (l : List Value) : List Value := ud :: ud :: ud :: ud :: ud :: ud :: ud :: ud :: ud :: ud :: ud :: ud :: l
abbrev ud13 (l : List Value) : List Value := ud :: ud :: ud :: ud :: ud :: ud :: ud :: ud :: ud :: ud :: ud :: ud :: ud :: l
abbrev ud14 (l : List Value) : List Value := ud :: ud :: ud :: ud :: ud :: ud :: ud :: ud :: ud :: ud :: ud :: ud :: ud :: ud :: l
abbrev ud15 (l : List Value) : List Value := ud :: ud :: ud :: ud :: ud :: ud :: ud :: ud :: ud :: ud :: ud :: ud :: ud :: ud :: ud :: l
abbrev ud16 (l : List Value) : List Value := ud :: ud :: ud :: ud :: ud :: ud :: ud :: ud :: ud :: ud :: ud :: ud :: ud :: ud :: ud :: ud :: l
abbrev ud17 (l : List Value) : List Value := ud :: ud :: ud :: ud :: ud :: ud :: ud :: ud :: ud :: ud :: ud :: ud :: ud :: ud :: ud :: ud :: ud :: l
abbrev ud18 (l : List Value) : List Value := ud :: ud :: ud :: ud :: ud :: ud :: ud :: ud :: ud :: ud :: ud :: ud :: ud :: ud :: ud :: ud :: ud :: ud :: l
abbrev ud19 (l : List Value) : List Value := ud :: ud :: ud :: ud :: ud :: ud :: ud :: ud :: ud :: ud :: ud :: ud :: ud :: ud :: ud :: ud :: ud :: ud :: ud :: l
abbrev ud20 (l : List Value) : List Value := ud :: ud :: ud :: ud :: ud :: ud :: ud :: ud :: ud :: ud :: ud :: ud :: ud :: ud :: ud :: ud :: ud :: ud :: ud :: ud :: l
abbrev ud21 (l : List Value) : List Value := ud :: ud :: ud :: ud :: ud :: ud :: ud :: ud :: ud :: ud :: ud :: ud :: ud :: ud :: ud :: ud :: ud :: ud :: ud :: ud :: ud :: l
abbrev ud22 (l : List Value) : List Value := ud :: ud :: ud :: ud :: ud :: ud :: ud :: ud :: ud :: ud :: ud :: ud :: ud :: ud :: ud :: ud :: ud :: ud :: ud :: ud :: ud :: ud :: l
abbrev ud23 (l : List Value) : List Value := ud :: ud :: ud :: ud :: ud :: ud :: ud :: ud :: ud :: ud :: ud :: ud :: ud :: ud :: ud :: ud :: ud :: ud :: ud :: ud :: ud :: ud :: ud :: l
abbrev ud24 (l : List Value) : List Value := ud :: ud :: ud :: ud :: ud :: ud :: ud :: ud :: ud :: ud :: ud :: ud :: ud :: ud :: ud :: ud :: ud :: ud :: ud :: ud :: ud :: ud :: ud :: ud :: l
abbrev ud25 (l : List Value) : List Value := ud :: ud :: ud :: ud :: ud :: ud :: ud :: ud :: ud :: ud :: ud :: ud :: ud :: ud :: ud :: ud :: ud :: ud :: ud :: ud :: ud :: ud :: ud :: ud :: ud :: l
abbrev ud26 (l : List Value) : List Value := ud :: ud :: ud :: ud :: ud :: ud :: ud :: ud :: ud :: ud :: ud :: ud :: ud :: ud :: ud :: ud :: ud :: ud :: ud :: ud :: ud :: ud :: ud :: ud :: ud :: ud :: l
abbrev ud27 (l : List Value) : List Value := ud :: ud :: ud :: ud :: ud :: ud :: ud :: ud :: ud :: ud :: ud :: ud :: ud :: ud :: ud :: ud :: ud :: ud :: ud :: ud :: ud :: ud :: ud :: ud :: ud :: ud :: ud :: l
abbrev ud28 (l : List Value) : List Value := ud :: ud :: ud :: ud :: ud :: ud :: ud :: ud :: ud :: ud :: ud :: ud :: ud :: ud :: ud :: ud :: ud :: ud :: ud :: ud :: ud :: ud :: ud :: ud :: ud :: ud :: ud :: ud :: l
abbrev ud29 (l : List Value) : List Value := ud :: ud :: ud :: ud :: ud :: ud :: ud :: ud :: ud :: ud :: ud :: ud :: ud :: ud :: ud :: ud :: ud :: ud :: ud :: ud :: ud :: ud :: ud :: ud :: ud :: ud :: ud :: ud :: ud :: l
abbrev ud30 (l : List Value) : List Value := ud :: ud :: ud :: ud :: ud :: ud :: ud :: ud :: ud :: ud :: ud :: ud :: ud :: ud :: ud :: ud :: ud :: ud :: ud :: ud :: ud :: ud :: ud :: ud :: ud :: ud :: ud :: ud :: ud :: ud :: l
abbrev ud31 (l : List Value) : List Value := ud :: ud :: ud :: ud :: ud :: ud :: ud :: ud :: ud :: ud :: ud :: ud :: ud :: ud :: ud :: ud :: ud :: ud :: ud :: ud :: ud :: ud :: ud :: ud :: ud :: ud :: ud :: ud :: ud :: ud :: ud :: l
abbrev ud32 (l : List Value) : List Value := ud :: ud :: ud :: ud :: ud :: ud :: ud :: ud :: ud :: ud :: ud :: ud :: ud :: ud :: ud :: ud :: ud :: ud :: ud :: ud :: ud :: ud :: ud :: ud :: ud :: ud :: ud :: ud :: ud :: ud :: ud :: ud :: l
abbrev ud33 (l : List Value) : List Value := ud :: ud :: ud :: ud :: ud :: ud :: ud :: ud :: ud :: ud :: ud :: ud :: ud :: ud :: ud :: ud :: ud :: ud :: ud :: ud :: ud :: ud :: ud :: ud :: ud :: ud :: ud :: ud :: ud :: ud :: ud :: ud :: ud :: l
abbrev ud34 (l : List Value) : List Value := ud :: ud :: ud :: ud :: ud :: ud :: ud :: ud :: ud :: ud :: ud :: ud :: ud :: ud :: ud :: ud :: ud :: ud :: ud :: ud :: ud :: ud :: ud :: ud :: ud :: ud :: ud :: ud :: ud :: ud :: ud :: ud :: ud :: ud :: l
abbrev ud35 (l : List Value) : List Value := ud :: ud :: ud :: ud :: ud :: ud :: ud :: ud :: ud :: ud :: ud :: ud :: ud :: ud :: ud :: ud :: ud :: ud :: ud :: ud :: ud :: ud :: ud :: ud :: ud :: ud :: ud :: ud :: ud :: ud :: ud :: ud :: ud :: ud :: ud :: l
abbrev ud36 (l : List Value) : List Value := ud :: ud :: ud :: ud :: ud :: ud :: ud :: ud :: ud :: ud :: ud :: ud :: ud :: ud :: ud :: ud :: ud :: ud :: ud :: ud :: ud :: ud :: ud :: ud :: ud :: ud :: ud :: ud :: ud :: ud :: ud :: ud :: ud :: ud :: ud :: ud :: l
abbrev ud37 (l : List Value) : List Value := ud :: ud :: ud :: ud :: ud :: ud :: ud :: ud :: ud :: ud :: ud :: ud :: ud :: ud :: ud :: ud :: ud :: ud :: ud :: ud :: ud :: ud :: ud :: ud :: ud :: ud :: ud :: ud :: ud :: ud :: ud :: ud :: ud :: ud :: ud :: ud :: ud :: l
abbrev ud38 (l : List Value) : List Value := ud :: ud :: ud :: ud :: ud :: ud :: ud :: ud :: ud :: ud :: ud :: ud :: ud :: ud :: ud :: ud :: ud :: ud :: ud :: ud :: ud :: ud :: ud :: ud :: ud :: ud :: ud :: ud :: ud :: ud :: ud :: ud :: ud :: ud :: ud :: ud :: ud :: ud :: l
abbrev ud39 (l : List Value) : List Value := ud :: ud :: ud :: ud :: ud :: ud :: ud :: ud :: ud :: ud :: ud :: ud :: ud :: ud :: ud :: ud :: ud :: ud :: ud :: ud :: ud :: ud :: ud :: ud :: ud :: ud :: ud :: ud :: ud :: ud :: ud :: ud :: ud :: ud :: ud :: ud :: ud :: ud :: ud :: l
abbrev ud41 (l : List Value) : List Value := ud :: ud :: ud :: ud :: ud :: ud :: ud :: ud :: ud :: ud :: ud :: ud :: ud :: ud :: ud :: ud :: ud :: ud :: ud :: ud :: ud :: ud :: ud :: ud :: ud :: ud :: ud :: ud :: ud :: ud :: ud :: ud :: ud :: ud :: ud :: ud :: ud :: ud :: ud :: ud :: ud :: l
abbrev ud42 (l : List Value) : List Value := ud :: ud :: ud :: ud :: ud :: ud :: ud :: ud :: ud :: ud :: ud :: ud :: ud :: ud :: ud :: ud :: ud :: ud :: ud :: ud :: ud :: ud :: ud :: ud :: ud :: ud :: ud :: ud :: ud :: ud :: ud :: ud :: ud :: ud :: ud :: ud :: ud :: ud :: ud :: ud :: ud :: ud :: l
abbrev ud43 (l : List Value) : List Value := ud :: ud :: ud :: ud :: ud :: ud :: ud :: ud :: ud :: ud :: ud :: ud :: ud :: ud :: ud :: ud :: ud :: ud :: ud :: ud :: ud :: ud :: ud :: ud :: ud :: ud :: ud :: ud :: ud :: ud :: ud :: ud :: ud :: ud :: ud :: ud :: ud :: ud :: ud :: ud :: ud :: ud :: ud :: l
abbrev ud44 (l : List Value) : List Value := ud :: ud :: ud :: ud :: ud :: ud :: ud :: ud :: ud :: ud :: ud :: ud :: ud :: ud :: ud :: ud :: ud :: ud :: ud :: ud :: ud :: ud :: ud :: ud :: ud :: ud :: ud :: ud :: ud :: ud :: ud :: ud :: ud :: ud :: ud :: ud :: ud :: ud :: ud :: ud :: ud :: ud :: ud :: ud :: l
abbrev ud46 (l : List Value) : List Value := ud :: ud :: ud :: ud :: ud :: ud :: ud :: ud :: ud :: ud :: ud :: ud :: ud :: ud :: ud :: ud :: ud :: ud :: ud :: ud :: ud :: ud :: ud :: ud :: ud :: ud :: ud :: ud :: ud :: ud :: ud :: ud :: ud :: ud :: ud :: ud :: ud :: ud :: ud :: ud :: ud :: ud :: ud :: ud :: ud :: ud :: l
abbrev ud47 (l : List Value) : List Value := ud :: ud :: ud :: ud :: ud :: ud :: ud :: ud :: ud :: ud :: ud :: ud :: ud :: ud :: ud :: ud :: ud :: ud :: ud :: ud :: ud :: ud :: ud :: ud :: ud :: ud :: ud :: ud :: ud :: ud :: ud :: ud :: ud :: ud :: ud :: ud :: ud :: ud :: ud :: ud :: ud :: ud :: ud :: ud :: ud :: ud :: ud :: l
abbrev ud48 (l : List Value) : List Value := ud :: ud :: ud :: ud :: ud :: ud :: ud :: ud :: ud :: ud :: ud :: ud :: ud :: ud :: ud :: ud :: ud :: ud :: ud :: ud :: ud :: ud :: ud :: ud :: ud :: ud :: ud :: ud :: ud :: ud :: ud :: ud :: ud :: ud :: ud :: ud :: ud :: ud :: ud :: ud :: ud :: ud :: ud :: ud :: ud :: ud :: ud :: ud :: l
abbrev ud49 (l : List Value) : List Value := ud :: ud :: ud :: ud :: ud :: ud :: ud :: ud :: ud :: ud :: ud :: ud :: ud :: ud :: ud :: ud :: ud :: ud :: ud :: ud :: ud :: ud :: ud :: ud :: ud :: ud :: ud :: ud :: ud :: ud :: ud :: ud :: ud :: ud :: ud :: ud :: ud :: ud :: ud :: ud :: ud :: ud :: ud :: ud :: ud :: ud :: ud :: ud :: ud :: l
abbrev ud52 (l : List Value) : List Value := ud :: ud :: ud :: ud :: ud :: ud :: ud :: ud :: ud :: ud :: ud :: ud :: ud :: ud :: ud :: ud :: ud :: ud :: ud :: ud :: ud :: ud :: ud :: ud :: ud :: ud :: ud :: ud :: ud :: ud :: ud :: ud :: ud :: ud :: ud :: ud :: ud :: ud :: ud :: ud :: ud :: ud :: ud :: ud :: ud :: ud :: ud :: ud :: ud :: ud :: ud :: ud :: l
abbrev ud53 (l : List Value) : List Value := ud :: ud :: ud :: ud :: ud :: ud :: ud :: ud :: ud :: ud :: ud :: ud :: ud :: ud :: ud :: ud :: ud :: ud :: ud :: ud :: ud :: ud :: ud :: ud :: ud :: ud :: ud :: ud :: ud :: ud :: ud :: ud :: ud :: ud :: ud :: ud :: ud :: ud :: ud :: ud :: ud :: ud :: ud :: ud :: ud :: ud :: ud :: ud :: ud :: ud :: ud :: ud :: ud :: l
abbrev ud54 (l : List Value) : List Value := ud :: ud :: ud :: ud :: ud :: ud :: ud :: ud :: ud :: ud :: ud :: ud :: ud :: ud :: ud :: ud :: ud :: ud :: ud :: ud :: ud :: ud :: ud :: ud :: ud :: ud :: ud :: ud :: ud :: ud :: ud :: ud :: ud :: ud :: ud :: ud :: ud :: ud :: ud :: ud :: ud :: ud :: ud :: ud :: ud :: ud :: ud :: ud :: ud :: ud :: ud :: ud :: ud :: ud :: l
abbrev ud55 (l : List Value) : List Value := ud :: ud :: ud :: ud :: ud :: ud :: ud :: ud :: ud :: ud :: ud :: ud :: ud :: ud :: ud :: ud :: ud :: ud :: ud :: ud :: ud :: ud :: ud :: ud :: ud :: ud :: ud :: ud :: ud :: ud :: ud :: ud :: ud :: ud :: ud :: ud :: ud :: ud :: ud :: ud :: ud :: ud :: ud :: ud :: ud :: ud :: ud :: ud :: ud :: ud :: ud :: ud :: ud :: ud :: ud :: l
abbrev ud56 (l : List Value) : List Value := ud :: ud :: ud :: ud :: ud :: ud :: ud :: ud :: ud :: ud :: ud :: ud :: ud :: ud :: ud :: ud :: ud :: ud :: ud :: ud :: ud :: ud :: ud :: ud :: ud :: ud :: ud :: ud :: ud :: ud :: ud :: ud :: ud :: ud :: ud :: ud :: ud :: ud :: ud :: ud :: ud :: ud :: ud :: ud :: ud :: ud :: ud :: ud :: ud :: ud :: ud :: ud :: ud :: ud :: ud :: ud :: l
abbrev ud57 (l : List Value) : List Value := ud :: ud :: ud :: ud :: ud :: ud :: ud :: ud :: ud :: ud :: ud :: ud :: ud :: ud :: ud :: ud :: ud :: ud :: ud :: ud :: ud :: ud :: ud :: ud :: ud :: ud :: ud :: ud :: ud :: ud :: ud :: ud :: ud :: ud :: ud :: ud :: ud :: ud :: ud :: ud :: ud :: ud :: ud :: ud :: ud :: ud :: ud :: ud :: ud :: ud :: ud :: ud :: ud :: ud :: ud :: ud :: ud :: l
abbrev ud58 (l : List Value) : List Value := ud :: ud :: ud :: ud :: ud :: ud :: ud :: ud :: ud :: ud :: ud :: ud :: ud :: ud :: ud :: ud :: ud :: ud :: ud :: ud :: ud :: ud :: ud :: ud :: ud :: ud :: ud :: ud :: ud :: ud :: ud :: ud :: ud :: ud :: ud :: ud :: ud :: ud :: ud :: ud :: ud :: ud :: ud :: ud :: ud :: ud :: ud :: ud :: ud :: ud :: ud :: ud :: ud :: ud :: ud :: ud :: ud :: ud :: l
abbrev ud59 (l : List Value) : List Value := ud :: ud :: ud :: ud :: ud :: ud :: ud :: ud :: ud :: ud :: ud :: ud :: ud :: ud :: ud :: ud :: ud :: ud :: ud :: ud :: ud :: ud :: ud :: ud :: ud :: ud :: ud :: ud :: ud :: ud :: ud :: ud :: ud :: ud :: ud :: ud :: ud :: ud :: ud :: ud :: ud :: ud :: ud :: ud :: ud :: ud :: ud :: ud :: ud :: ud :: ud :: ud :: ud :: ud :: ud :: ud :: ud :: ud :: ud :: l
abbrev ud60 (l : List Value) : List Value := ud :: ud :: ud :: ud :: ud :: ud :: ud :: ud :: ud :: ud :: ud :: ud :: ud :: ud :: ud :: ud :: ud :: ud :: ud :: ud :: ud :: ud :: ud :: ud :: ud :: ud :: ud :: ud :: ud :: ud :: ud :: ud :: ud :: ud :: ud :: ud :: ud :: ud :: ud :: ud :: ud :: ud :: ud :: ud :: ud :: ud :: ud :: ud :: ud :: ud :: ud :: ud :: ud :: ud :: ud :: ud :: ud :: ud :: ud :: ud :: l
abbrev ud62 (l : List Value) : List Value := ud :: ud :: ud :: ud :: ud :: ud :: ud :: ud :: ud :: ud :: ud :: ud :: ud :: ud :: ud :: ud :: ud :: ud :: ud :: ud :: ud :: ud :: ud :: ud :: ud :: ud :: ud :: ud :: ud :: ud :: ud :: ud :: ud :: ud :: ud :: ud :: ud :: ud :: ud :: ud :: ud :: ud :: ud :: ud :: ud :: ud :: ud :: ud :: ud :: ud :: ud :: ud :: ud :: ud :: ud :: ud :: ud :: ud :: ud :: ud :: ud :: ud :: l
abbrev ud63 (l : List Value) : List Value := ud :: ud :: ud :: ud :: ud :: ud :: ud :: ud :: ud :: ud :: ud :: ud :: ud :: ud :: ud :: ud :: ud :: ud :: ud :: ud :: ud :: ud :: ud :: ud :: ud :: ud :: ud :: ud :: ud :: ud :: ud :: ud :: ud :: ud :: ud :: ud :: ud :: ud :: ud :: ud :: ud :: ud :: ud :: ud :: ud :: ud :: ud :: ud :: ud :: ud :: ud :: ud :: ud :: ud :: ud :: ud :: ud :: ud :: ud :: ud :: ud :: ud :: ud :: l
abbrev ud65 (l : List Value) : List Value := ud :: ud :: ud :: ud :: ud :: ud :: ud :: ud :: ud :: ud :: ud :: ud :: ud :: ud :: ud :: ud :: ud :: ud :: ud :: ud :: ud :: ud :: ud :: ud :: ud :: ud :: ud :: ud :: ud :: ud :: ud :: ud :: ud :: ud :: ud :: ud :: ud :: ud :: ud :: ud :: ud :: ud :: ud :: ud :: ud :: ud :: ud :: ud :: ud :: ud :: ud :: ud :: ud :: ud :: ud :: ud :: ud :: ud :: ud :: ud :: ud :: ud :: ud :: ud :: ud :: l
abbrev ud66 (l : List Value) : List Value := ud :: ud :: ud :: ud :: ud :: ud :: ud :: ud :: ud :: ud :: ud :: ud :: ud :: ud :: ud :: ud :: ud :: ud :: ud :: ud :: ud :: ud :: ud :: ud :: ud :: ud :: ud :: ud :: ud :: ud :: ud :: ud :: ud :: ud :: ud :: ud :: ud :: ud :: ud :: ud :: ud :: ud :: ud :: ud :: ud :: ud :: ud :: ud :: ud :: ud :: ud :: ud :: ud :: ud :: ud :: ud :: ud :: ud :: ud :: ud :: ud :: ud :: ud :: ud :: ud :: ud :: l
abbrev ud67 (l : List Value) : List Value := ud :: ud :: ud :: ud :: ud :: ud :: ud :: ud :: ud :: ud :: ud :: ud :: ud :: ud :: ud :: ud :: ud :: ud :: ud :: ud :: ud :: ud :: ud :: ud :: ud :: ud :: ud :: ud :: ud :: ud :: ud :: ud :: ud :: ud :: ud :: ud :: ud :: ud :: ud :: ud :: ud :: ud :: ud :: ud :: ud :: ud :: ud :: ud :: ud :: ud :: ud :: ud :: ud :: ud :: ud :: ud :: ud :: ud :: ud :: ud :: ud :: ud :: ud :: ud :: ud :: ud :: ud :: l
abbrev ud68 (l : List Value) : List Value := ud :: ud :: ud :: ud :: ud :: ud :: ud :: ud :: ud :: ud :: ud :: ud :: ud :: ud :: ud :: ud :: ud :: ud :: ud :: ud :: ud :: ud :: ud :: ud :: ud :: ud :: ud :: ud :: ud :: ud :: ud :: ud :: ud :: ud :: ud :: ud :: ud :: ud :: ud :: ud :: ud :: ud :: ud :: ud :: ud :: ud :: ud :: ud :: ud :: ud :: ud :: ud :: ud :: ud :: ud :: ud :: ud :: ud :: ud :: ud :: ud :: ud :: ud :: ud :: ud :: ud :: ud :: ud :: l
abbrev ud69 (l : List Value) : List Value := ud :: ud :: ud :: ud :: ud :: ud :: ud :: ud :: ud :: ud :: ud :: ud :: ud :: ud :: ud :: ud :: ud :: ud :: ud :: ud :: ud :: ud :: ud :: ud :: ud :: ud :: ud :: ud :: ud :: ud :: ud :: ud :: ud :: ud :: ud :: ud :: ud :: ud :: ud :: ud :: ud :: ud :: ud :: ud :: ud :: ud :: ud :: ud :: ud :: ud :: ud :: ud :: ud :: ud :: ud :: ud :: ud :: ud :: ud :: ud :: ud :: ud :: ud :: ud :: ud :: ud :: ud :: ud :: ud :: l
abbrev ud70 (l : List Value) : List Value := ud :: ud :: ud :: ud :: ud :: ud :: ud :: ud :: ud :: ud :: ud :: ud :: ud :: ud :: ud :: ud :: ud :: ud :: ud :: ud :: ud :: ud :: ud :: ud :: ud :: ud :: ud :: ud :: ud :: ud :: ud :: ud :: ud :: ud :: ud :: ud :: ud :: ud :: ud :: ud :: ud :: ud :: ud :: ud :: ud :: ud :: ud :: ud :: ud :: ud :: ud :: ud :: ud :: ud :: ud :: ud :: ud :: ud :: ud :: ud :: ud :: ud :: ud :: ud :: ud :: ud :: ud :: ud :: ud :: ud :: l
abbrev ud73 (l : List Value) : List Value := ud :: ud :: ud :: ud :: ud :: ud :: ud :: ud :: ud :: ud :: ud :: ud :: ud :: ud :: ud :: ud :: ud :: ud :: ud :: ud :: ud :: ud :: ud :: ud :: ud :: ud :: ud :: ud :: ud :: ud :: ud :: ud :: ud :: ud :: ud :: ud :: ud :: ud :: ud :: ud :: ud :: ud :: ud :: ud :: ud :: ud :: ud :: ud :: ud :: ud :: ud :: ud :: ud :: ud :: ud :: ud :: ud :: ud :: ud :: ud :: ud :: ud :: ud :: ud :: ud :: ud :: ud :: ud :: ud :: ud :: ud :: ud :: ud :: l
abbrev ud77 (l : List Value) : List Value := ud :: ud :: ud :: ud :: ud :: ud :: ud :: ud :: ud :: ud :: ud :: ud :: ud :: ud :: ud :: ud :: ud :: ud :: ud :: ud :: ud :: ud :: ud :: ud :: ud :: ud :: ud :: ud :: ud :: ud :: ud :: ud :: ud :: ud :: ud :: ud :: ud :: ud :: ud :: ud :: ud :: ud :: ud :: ud :: ud :: ud :: ud :: ud :: ud :: ud :: ud :: ud :: ud :: ud :: ud :: ud :: ud :: ud :: ud :: ud :: ud :: ud :: ud :: ud :: ud :: ud :: ud :: ud :: ud :: ud :: ud :: ud :: ud :: ud :: ud :: ud :: ud :: l
abbrev ud79 (l : List Value) : List Value := ud :: ud :: ud :: ud :: ud :: ud :: ud :: ud :: ud :: ud :: ud :: ud :: ud :: ud :: ud :: ud :: ud :: ud :: ud :: ud :: ud :: ud :: ud :: ud :: ud :: ud :: ud :: ud :: ud :: ud :: ud :: ud :: ud :: ud :: ud :: ud :: ud :: ud :: ud :: ud :: ud :: ud :: ud :: ud :: ud :: ud :: ud :: ud :: ud :: ud :: ud :: ud :: ud :: ud :: ud :: ud :: ud :: ud :: ud :: ud :: ud :: ud :: ud :: ud :: ud :: ud :: ud :: ud :: ud :: ud :: ud :: ud :: ud :: ud :: ud :: ud :: ud :: ud :: ud :: l
abbrev ud99 (l : List Value) : List Value := ud :: ud :: ud :: ud :: ud :: ud :: ud :: ud :: ud :: ud :: ud :: ud :: ud :: ud :: ud :: ud :: ud :: ud :: ud :: ud :: ud :: ud :: ud :: ud :: ud :: ud :: ud :: ud :: ud :: ud :: ud :: ud :: ud :: ud :: ud :: ud :: ud :: ud :: ud :: ud :: ud :: ud :: ud :: ud :: ud :: ud :: ud :: ud :: ud :: ud :: ud :: ud :: ud :: ud :: ud :: ud :: ud :: ud :: ud :: ud :: ud :: ud :: ud :: ud :: ud :: ud :: ud :: ud :: ud :: ud :: ud :: ud :: ud :: ud :: ud :: ud :: ud :: ud :: ud :: ud :: ud :: ud :: ud :: ud :: ud :: ud :: ud :: ud :: ud :: ud :: ud :: ud :: ud :: ud :: ud :: ud :: ud :: ud :: ud :: l
abbrev ud100 (l : List Value) : List Value := ud :: ud :: ud :: ud :: ud :: ud :: ud :: ud :: ud :: ud :: ud :: ud :: ud :: ud :: ud :: ud :: ud :: ud :: ud :: ud :: ud :: ud :: ud :: ud :: ud :: ud :: ud :: ud :: ud :: ud :: ud :: ud :: ud :: ud :: ud :: ud :: ud :: ud :: ud :: ud :: ud :: ud :: ud :: ud :: ud :: ud :: ud :: ud :: ud :: ud :: ud :: ud :: ud :: ud :: ud :: ud :: ud :: ud :: ud :: ud :: ud :: ud :: ud :: ud :: ud :: ud :: ud :: ud :: ud :: ud :: ud :: ud :: ud :: ud :: ud :: ud :: ud :: ud :: ud :: ud :: ud :: ud :: ud :: ud :: ud :: ud :: ud :: ud :: ud :: ud :: ud :: ud :: ud :: ud :: ud :: ud :: ud :: ud :: ud :: ud :: l
abbrev ud197 (l : List Value) : List Value := ud :: ud :: ud :: ud :: ud :: ud :: ud :: ud :: ud :: ud :: ud :: ud :: ud :: ud :: ud :: ud :: ud :: ud :: ud :: ud :: ud :: ud :: ud :: ud :: ud :: ud :: ud :: ud :: ud :: ud :: ud :: ud :: ud :: ud :: ud :: ud :: ud :: ud :: ud :: ud :: ud :: ud :: ud :: ud :: ud :: ud :: ud :: ud :: ud :: ud :: ud :: ud :: ud :: ud :: ud :: ud :: ud :: ud :: ud :: ud :: ud :: ud :: ud :: ud :: ud :: ud :: ud :: ud :: ud :: ud :: ud :: ud :: ud :: ud :: ud :: ud :: ud :: ud :: ud :: ud :: ud :: ud :: ud :: ud :: ud :: ud :: ud :: ud :: ud :: ud :: ud :: ud :: ud :: ud :: ud :: ud :: ud :: ud :: ud :: ud :: ud :: ud :: ud :: ud :: ud :: ud :: ud :: ud :: ud :: ud :: ud :: ud :: ud :: ud :: ud :: ud :: ud :: ud :: ud :: ud :: ud :: ud :: ud :: ud :: ud :: ud :: ud :: ud :: ud :: ud :: ud :: ud :: ud :: ud :: ud :: ud :: ud :: ud :: ud :: ud :: ud :: ud :: ud :: ud :: ud :: ud :: ud :: ud :: ud :: ud :: ud :: ud :: ud :: ud :: ud :: ud :: ud :: ud :: ud :: ud :: ud :: ud :: ud :: ud :: ud :: ud :: ud :: ud :: ud :: ud :: ud :: ud :: ud :: ud :: ud :: ud :: ud :: ud :: ud :: ud :: ud :: ud :: ud :: ud :: ud :: ud :: ud :: ud :: ud :: ud :: ud :: ud :: ud :: ud :: ud :: ud :: ud :: l
abbrev ud199 (l : List Value) : List Value := ud :: ud :: ud :: ud :: ud :: ud :: ud :: ud :: ud :: ud :: ud :: ud :: ud :: ud :: ud :: ud :: ud :: ud :: ud :: ud :: ud :: ud :: ud :: ud :: ud :: ud :: ud :: ud :: ud :: ud :: ud :: ud :: ud :: ud :: ud :: ud :: ud :: ud :: ud :: ud :: ud :: ud :: ud :: ud :: ud :: ud :: ud :: ud :: ud :: ud :: ud :: ud :: ud :: ud :: ud :: ud :: ud :: ud :: ud :: ud :: ud :: ud :: ud :: ud :: ud :: ud :: ud :: ud :: ud :: ud :: ud :: ud :: ud :: ud :: ud :: ud :: ud :: ud :: ud :: ud :: ud :: ud :: ud :: ud :: ud :: ud :: ud :: ud :: ud :: ud :: ud :: ud :: ud :: ud :: ud :: ud :: ud :: ud :: ud :: ud :: ud :: ud :: ud :: ud :: ud :: ud :: ud :: ud :: ud :: ud :: ud :: ud :: ud :: ud :: ud :: ud :: ud :: ud :: ud :: ud :: ud :: ud :: ud :: ud :: ud :: ud :: ud :: ud :: ud :: ud :: ud :: ud :: ud :: ud :: ud :: ud :: ud :: ud :: ud :: ud :: ud :: ud :: ud :: ud :: ud :: ud :: ud :: ud :: ud :: ud :: ud :: ud :: ud :: ud :: ud :: ud :: ud :: ud :: ud :: ud :: ud :: ud :: ud :: ud :: ud :: ud :: ud :: ud :: ud :: ud :: ud :: ud :: ud :: ud :: ud :: ud :: ud :: ud :: ud :: ud :: ud :: ud :: ud :: ud :: ud :: ud :: ud :: ud :: ud :: ud :: ud :: ud :: ud :: ud :: ud :: ud :: ud :: ud :: ud :: l
abbrev ud202 (l : List Value) : List Value := ud :: ud :: ud :: ud :: ud :: ud :: ud :: ud :: ud :: ud :: ud :: ud :: ud :: ud :: ud :: ud :: ud :: ud :: ud :: ud :: ud :: ud :: ud :: ud :: ud :: ud :: ud :: ud :: ud :: ud :: ud :: ud :: ud :: ud :: ud :: ud :: ud :: ud :: ud :: ud :: ud :: ud :: ud :: ud :: ud :: ud :: ud :: ud :: ud :: ud :: ud :: ud :: ud :: ud :: ud :: ud :: ud :: ud :: ud :: ud :: ud :: ud :: ud :: ud :: ud :: ud :: ud :: ud :: ud :: ud :: ud :: ud :: ud :: ud :: ud :: ud :: ud :: ud :: ud :: ud :: ud :: ud :: ud :: ud :: ud :: ud :: ud :: ud :: ud :: ud :: ud :: ud :: ud :: ud :: ud :: ud :: ud :: ud :: ud :: ud :: ud :: ud :: ud :: ud :: ud :: ud :: ud :: ud :: ud :: ud :: ud :: ud :: ud :: ud :: ud :: ud :: ud :: ud :: ud :: ud :: ud :: ud :: ud :: ud :: ud :: ud :: ud :: ud :: ud :: ud :: ud :: ud :: ud :: ud :: ud :: ud :: ud :: ud :: ud :: ud :: ud :: ud :: ud :: ud :: ud :: ud :: ud :: ud :: ud :: ud :: ud :: ud :: ud :: ud :: ud :: ud :: ud :: ud :: ud :: ud :: ud :: ud :: ud :: ud :: ud :: ud :: ud :: ud :: ud :: ud :: ud :: ud :: ud :: ud :: ud :: ud :: ud :: ud :: ud :: ud :: ud :: ud :: ud :: ud :: ud :: ud :: ud :: ud :: ud :: ud :: ud :: ud :: ud :: ud :: ud :: ud :: ud :: ud :: ud :: ud :: ud :: ud :: l
abbrev ud204 (l : List Value) : List Value := ud :: ud :: ud :: ud :: ud :: ud :: ud :: ud :: ud :: ud :: ud :: ud :: ud :: ud :: ud :: ud :: ud :: ud :: ud :: ud :: ud :: ud :: ud :: ud :: ud :: ud :: ud :: ud :: ud :: ud :: ud :: ud :: ud :: ud :: ud :: ud :: ud :: ud :: ud :: ud :: ud :: ud :: ud :: ud :: ud :: ud :: ud :: ud :: ud :: ud :: ud :: ud :: ud :: ud :: ud :: ud :: ud :: ud :: ud :: ud :: ud :: ud :: ud :: ud :: ud :: ud :: ud :: ud :: ud :: ud :: ud :: ud :: ud :: ud :: ud :: ud :: ud :: ud :: ud :: ud :: ud :: ud :: ud :: ud :: ud :: ud :: ud :: ud :: ud :: ud :: ud :: ud :: ud :: ud :: ud :: ud :: ud :: ud :: ud :: ud :: ud :: ud :: ud :: ud :: ud :: ud :: ud :: ud :: ud :: ud :: ud :: ud :: ud :: ud :: ud :: ud :: ud :: ud :: ud :: ud :: ud :: ud :: ud :: ud :: ud :: ud :: ud :: ud :: ud :: ud :: ud :: ud :: ud :: ud :: ud :: ud :: ud :: ud :: ud :: ud :: ud :: ud :: ud :: ud :: ud :: ud :: ud :: ud :: ud :: ud :: ud :: ud :: ud :: ud :: ud :: ud :: ud :: ud :: ud :: ud :: ud :: ud :: ud :: ud :: ud :: ud :: ud :: ud :: ud :: ud :: ud :: ud :: ud :: ud :: ud :: ud :: ud :: ud :: ud :: ud :: ud :: ud :: ud :: ud :: ud :: ud :: ud :: ud :: ud :: ud :: ud :: ud :: ud :: ud :: ud :: ud :: ud :: ud :: ud :: ud :: ud :: ud :: ud :: ud :: l
abbrev ud205 (l : List Value) : List Value := ud :: ud :: ud :: ud :: ud :: ud :: ud :: ud :: ud :: ud :: ud :: ud :: ud :: ud :: ud :: ud :: ud :: ud :: ud :: ud :: ud :: ud :: ud :: ud :: ud :: ud :: ud :: ud :: ud :: ud :: ud :: ud :: ud :: ud :: ud :: ud :: ud :: ud :: ud :: ud :: ud :: ud :: ud :: ud :: ud :: ud :: ud :: ud :: ud :: ud :: ud :: ud :: ud :: ud :: ud :: ud :: ud :: ud :: ud :: ud :: ud :: ud :: ud :: ud :: ud :: ud :: ud :: ud :: ud :: ud :: ud :: ud :: ud :: ud :: ud :: ud :: ud :: ud :: ud :: ud :: ud :: ud :: ud :: ud :: ud :: ud :: ud :: ud :: ud :: ud :: ud :: ud :: ud :: ud :: ud :: ud :: ud :: ud :: ud :: ud :: ud :: ud :: ud :: ud :: ud :: ud :: ud :: ud :: ud :: ud :: ud :: ud :: ud :: ud :: ud :: ud :: ud :: ud :: ud :: ud :: ud :: ud :: ud :: ud :: ud :: ud :: ud :: ud :: ud :: ud :: ud :: ud :: ud :: ud :: ud :: ud :: ud :: ud :: ud :: ud :: ud :: ud :: ud :: ud :: ud :: ud :: ud :: ud :: ud :: ud :: ud :: ud :: ud :: ud :: ud :: ud :: ud :: ud :: ud :: ud :: ud :: ud :: ud :: ud :: ud :: ud :: ud :: ud :: ud :: ud :: ud :: ud :: ud :: ud :: ud :: ud :: ud :: ud :: ud :: ud :: ud :: ud :: ud :: ud :: ud :: ud :: ud :: ud :: ud :: ud :: ud :: ud :: ud :: ud :: ud :: ud :: ud :: ud :: ud :: ud :: ud :: ud :: ud :: ud :: ud :: l
abbrev ud206 (l : List Value) : List Value := ud :: ud :: ud :: ud :: ud :: ud :: ud :: ud :: ud :: ud :: ud :: ud :: ud :: ud :: ud :: ud :: ud :: ud :: ud :: ud :: ud :: ud :: ud :: ud :: ud :: ud :: ud :: ud :: ud :: ud :: ud :: ud :: ud :: ud :: ud :: ud :: ud :: ud :: ud :: ud :: ud :: ud :: ud :: ud :: ud :: ud :: ud :: ud :: ud :: ud :: ud :: ud :: ud :: ud :: ud :: ud :: ud :: ud :: ud :: ud :: ud :: ud :: ud :: ud :: ud :: ud :: ud :: ud :: ud :: ud :: ud :: ud :: ud :: ud :: ud :: ud :: ud :: ud :: ud :: ud :: ud :: ud :: ud :: ud :: ud :: ud :: ud :: ud :: ud :: ud :: ud :: ud :: ud :: ud :: ud :: ud :: ud :: ud :: ud :: ud :: ud :: ud :: ud :: ud :: ud :: ud :: ud :: ud :: ud :: ud :: ud :: ud :: ud :: ud :: ud :: ud :: ud :: ud :: ud :: ud :: ud :: ud :: ud :: ud :: ud :: ud :: ud :: ud :: ud :: ud :: ud :: ud :: ud :: ud :: ud :: ud :: ud :: ud :: ud :: ud :: ud :: ud :: ud :: ud :: ud :: ud :: ud :: ud :: ud :: ud :: ud :: ud :: ud :: ud :: ud :: ud :: ud :: ud :: ud :: ud :: ud :: ud :: ud :: ud :: ud :: ud :: ud :: ud :: ud :: ud :: ud :: ud :: ud :: ud :: ud :: ud :: ud :: ud :: ud :: ud :: ud :: ud :: ud :: ud :: ud :: ud :: ud :: ud :: ud :: ud :: ud :: ud :: ud :: ud :: ud :: ud :: ud :: ud :: ud :: ud :: ud :: ud :: ud :: ud :: ud :: ud :: l
abbrev ud208 (l : List Value) : List Value := ud :: ud :: ud :: ud :: ud :: ud :: ud :: ud :: ud :: ud :: ud :: ud :: ud :: ud :: ud :: ud :: ud :: ud :: ud :: ud :: ud :: ud :: ud :: ud :: ud :: ud :: ud :: ud :: ud :: ud :: ud :: ud :: ud :: ud :: ud :: ud :: ud :: ud :: ud :: ud :: ud :: ud :: ud :: ud :: ud :: ud :: ud :: ud :: ud :: ud :: ud :: ud :: ud :: ud :: ud :: ud :: ud :: ud :: ud :: ud :: ud :: ud :: ud :: ud :: ud :: ud :: ud :: ud :: ud :: ud :: ud :: ud :: ud :: ud :: ud :: ud :: ud :: ud :: ud :: ud :: ud :: ud :: ud :: ud :: ud :: ud :: ud :: ud :: ud :: ud :: ud :: ud :: ud :: ud :: ud :: ud :: ud :: ud :: ud :: ud :: ud :: ud :: ud :: ud :: ud :: ud :: ud :: ud :: ud :: ud :: ud :: ud :: ud :: ud :: ud :: ud :: ud :: ud :: ud :: ud :: ud :: ud :: ud :: ud :: ud :: ud :: ud :: ud :: ud :: ud :: ud :: ud :: ud :: ud :: ud :: ud :: ud :: ud :: ud :: ud :: ud :: ud :: ud :: ud :: ud :: ud :: ud :: ud :: ud :: ud :: ud :: ud :: ud :: ud :: ud :: ud :: ud :: ud :: ud :: ud :: ud :: ud :: ud :: ud :: ud :: ud :: ud :: ud :: ud :: ud :: ud :: ud :: ud :: ud :: ud :: ud :: ud :: ud :: ud :: ud :: ud :: ud :: ud :: ud :: ud :: ud :: ud :: ud :: ud :: ud :: ud :: ud :: ud :: ud :: ud :: ud :: ud :: ud :: ud :: ud :: ud :: ud :: ud :: ud :: ud :: ud :: ud :: ud :: l
abbrev ud209 (l : List Value) : List Value := ud :: ud :: ud :: ud :: ud :: ud :: ud :: ud :: ud :: ud :: ud :: ud :: ud :: ud :: ud :: ud :: ud :: ud :: ud :: ud :: ud :: ud :: ud :: ud :: ud :: ud :: ud :: ud :: ud :: ud :: ud :: ud :: ud :: ud :: ud :: ud :: ud :: ud :: ud :: ud :: ud :: ud :: ud :: ud :: ud :: ud :: ud :: ud :: ud :: ud :: ud :: ud :: ud :: ud :: ud :: ud :: ud :: ud :: ud :: ud :: ud :: ud :: ud :: ud :: ud :: ud :: ud :: ud :: ud :: ud :: ud :: ud :: ud :: ud :: ud :: ud :: ud :: ud :: ud :: ud :: ud :: ud :: ud :: ud :: ud :: ud :: ud :: ud :: ud :: ud :: ud :: ud :: ud :: ud :: ud :: ud :: ud :: ud :: ud :: ud :: ud :: ud :: ud :: ud :: ud :: ud :: ud :: ud :: ud :: ud :: ud :: ud :: ud :: ud :: ud :: ud :: ud :: ud :: ud :: ud :: ud :: ud :: ud :: ud :: ud :: ud :: ud :: ud :: ud :: ud :: ud :: ud :: ud :: ud :: ud :: ud :: ud :: ud :: ud :: ud :: ud :: ud :: ud :: ud :: ud :: ud :: ud :: ud :: ud :: ud :: ud :: ud :: ud :: ud :: ud :: ud :: ud :: ud :: ud :: ud :: ud :: ud :: ud :: ud :: ud :: ud :: ud :: ud :: ud :: ud :: ud :: ud :: ud :: ud :: ud :: ud :: ud :: ud :: ud :: ud :: ud :: ud :: ud :: ud :: ud :: ud :: ud :: ud :: ud :: ud :: ud :: ud :: ud :: ud :: ud :: ud :: ud :: ud :: ud :: ud :: ud :: ud :: ud :: ud :: ud :: ud :: ud :: ud :: ud :: l
abbrev ud220 (l : List Value) : List Value := ud :: ud :: ud :: ud :: ud :: ud :: ud :: ud :: ud :: ud :: ud :: ud :: ud :: ud :: ud :: ud :: ud :: ud :: ud :: ud :: ud :: ud :: ud :: ud :: ud :: ud :: ud :: ud :: ud :: ud :: ud :: ud :: ud :: ud :: ud :: ud :: ud :: ud :: ud :: ud :: ud :: ud :: ud :: ud :: ud :: ud :: ud :: ud :: ud :: ud :: ud :: ud :: ud :: ud :: ud :: ud :: ud :: ud :: ud :: ud :: ud :: ud :: ud :: ud :: ud :: ud :: ud :: ud :: ud :: ud :: ud :: ud :: ud :: ud :: ud :: ud :: ud :: ud :: ud :: ud :: ud :: ud :: ud :: ud :: ud :: ud :: ud :: ud :: ud :: ud :: ud :: ud :: ud :: ud :: ud :: ud :: ud :: ud :: ud :: ud :: ud :: ud :: ud :: ud :: ud :: ud :: ud :: ud :: ud :: ud :: ud :: ud :: ud :: ud :: ud :: ud :: ud :: ud :: ud :: ud :: ud :: ud :: ud :: ud :: ud :: ud :: ud :: ud :: ud :: ud :: ud :: ud :: ud :: ud :: ud :: ud :: ud :: ud :: ud :: ud :: ud :: ud :: ud :: ud :: ud :: ud :: ud :: ud :: ud :: ud :: ud :: ud :: ud :: ud :: ud :: ud :: ud :: ud :: ud :: ud :: ud :: ud :: ud :: ud :: ud :: ud :: ud :: ud :: ud :: ud :: ud :: ud :: ud :: ud :: ud :: ud :: ud :: ud :: ud :: ud :: ud :: ud :: ud :: ud :: ud :: ud :: ud :: ud :: ud :: ud :: ud :: ud :: ud :: ud :: ud :: ud :: ud :: ud :: ud :: ud :: ud :: ud :: ud :: ud :: ud :: ud :: ud :: ud :: ud :: ud :: ud :: ud :: ud :: ud :: ud :: ud :: ud :: ud :: ud :: ud :: l
set_option maxHeartbeats 1000000

def p_fmz (l_a : LN) (left : Int) : Int := (bif decide ((IntKind.wrap .i64 (left - (l_a.length : Int)) : Int) < 0) then ((-1) : Int) else IntKind.wrap .i64 (left - (l_a.length : Int)))
def p_fmz_eq := @p_fmz.eq_1
def T_fmz (a_a : OA) (a_n : Nat) (a_e : Nat) (left : Int) (H : AHeap) (K : Int → AHeap → Prop) : Prop := ∃ (l_a : LN), IsL fF H a_a a_n l_a ∧ K (p_fmz l_a left) H
theorem T_fmz_i {a_a : OA} {a_n : Nat} {a_e : Nat} {left : Int} {H : AHeap} {K : Int → AHeap → Prop} (h : ∃ (l_a : LN), IsL fF H a_a a_n l_a ∧ K (p_fmz l_a left) H) : T_fmz a_a a_n a_e left H K := h
theorem ω2 {P : Prop} (h : P := by omega) : P := h
theorem fmz_f (l : LN) (left : Int) : 0 ≤ left → left ≤ 1048576 → l.length ≤ 9223372036854775807 → p_fmz l left < 0 ∨ (l.length : Int) ≤ left ∧ p_fmz l left = left - l.length := by
 intro h0 h1 h2
 rw [p_fmz_eq, wrap64 ω2 ω2]
 by_cases h : left - (l.length : Int) < 0
 ·rw [decide_eq_true h, cond_true]; left; decide
 ·rw [decide_eq_false h, cond_false]; right; omega
/-! fmz: function 110 -/
def E_fmz : Env := envOf []
def F_fmz : List Value → AHeap → (Value → AHeap → Prop) → Prop
 | [.slice a_a a_n a_e, .int .i64 left], H, K => T_fmz a_a a_n a_e left H fun (r1 : Int) (H' : AHeap) => K (.int .i64 r1) H'
 | _, _, _ => False
def S_fmz : FSpec := { F := F_fmz, quiet := true, tame := false }
theorem fmz_vc (a_a : OA) (a_n : Nat) (a_e : Nat) (left : Int) (H : AHeap) (K : Value → AHeap → Prop) : bodyL Try.prog E_fmz Try.f110 [.slice a_a a_n a_e, .int .i64 left] H K =
 (Br (decide ((IntKind.wrap .i64 (left - (a_n : Int)) : Int) < 0)) (K (.int .i64 (-1)) H) (K (.int .i64 (IntKind.wrap .i64 (left - (a_n : Int)))) H)) := by kernel_rfl
theorem E_fmz_ok : ∀ g, FnOk Try.prog g (E_fmz g) := FnOk.envOf (by
 intro x hx; cases hx)
theorem fmz_main (a_a : OA) (a_n : Nat) (a_e : Nat) (left : Int) (H : AHeap) (K : Value → AHeap → Prop) (h : T_fmz a_a a_n a_e left H fun (r1 : Int) (H' : AHeap) => K (.int .i64 r1) H') : bodyL Try.prog E_fmz Try.f110 [.slice a_a a_n a_e, .int .i64 left] H K := by
 rw [fmz_vc]
 obtain ⟨l_a, i_a, hk⟩ := h
 obtain rfl := i_a.eqn
 have e : (p_fmz l_a left) = _ := rfl
 have e := e.trans (p_fmz_eq l_a left)
 have g0 := Grow.refl H
 refine Br.intro (fun c_1 => ?_) (fun c_1 => ?_)
 ·have e := e.trans (cond_t c_1)
  have c_1' := of_decide_eq_true c_1
  rw [e] at hk
  exact hk
 ·have e := e.trans (cond_f c_1)
  have c_1' := of_decide_eq_false c_1
  rw [e] at hk
  exact hk
theorem ω15 {P : Prop} (h : P := by kernel_rfl) : P := h
theorem fmz_ok : FnOk Try.prog 110 S_fmz := by
 refine FnOk.body mix_ok E_fmz_ok Try.func110 rfl ω15 ω15 ?_ ?_ ?_ ?_ ?_
 ·intro args H K K' h hk
  simp only [S_fmz] at *
  unfold F_fmz at *
  split at hk
  ·obtain ⟨l_a, i_a, k⟩ := hk
   exact ⟨l_a, i_a, h _ _ k⟩
  ·exact hk.elim
 ·intro _ args H K hk
  simp only [S_fmz] at *
  unfold F_fmz at *
  split at hk
  ·obtain ⟨l_a, i_a, k⟩ := hk
   exact ⟨_, k, fun K' k' => ⟨l_a, i_a, k'⟩⟩
  ·exact hk.elim
 ·intro args H K hk
  simp only [S_fmz] at *
  unfold F_fmz at *
  split at hk
  ·obtain ⟨l_a, i_a, k⟩ := hk
   exact ⟨_, _, k⟩
  ·exact hk.elim
 ·intro hq; cases hq
 ·have mm := @fmz_main
  have ml := fun (args : List Value) (H : AHeap) (K : Value → AHeap → Prop) => bodyL_body (P := Try.prog) (env := E_fmz ) (fn := Try.f110) (args := args) (H := H) (K := K) E_fmz_ok 
  revert mm ml
  generalize bodyK Try.prog E_fmz Try.f110 = Q
  generalize bodyL Try.prog E_fmz Try.f110 = QL
  intro mm ml args H K hk
  simp only [S_fmz] at *
  unfold F_fmz at *
  split at hk
  ·exact ml _ H K (mm _ _ _ _ H K hk)
  ·exact hk.elim

def p_f20z (qb : LN) (left : Int) : Int := (bif decide (((p_fmz qb left) : Int) < 0) then ((-1) : Int) else (p_fmz qb left))
def p_f20z_eq := @p_f20z.eq_1
def T_f20z (dc : OA) (lc : Nat) (mc : Nat) (left : Int) (H : AHeap) (K : Int → AHeap → Prop) : Prop := ∃ (qb : LN), IsL fF H dc lc qb ∧ ((∀ H' : AHeap, Grow H H' → K (p_f20z qb left) H'))
theorem T_f20z_i {dc : OA} {lc : Nat} {mc : Nat} {left : Int} {H : AHeap} {K : Int → AHeap → Prop} (h : ∃ (qb : LN), IsL fF H dc lc qb ∧ ((∀ H' : AHeap, Grow H H' → K (p_f20z qb left) H'))) : T_f20z dc lc mc left H K := h
theorem f20z_f (l : LN) (left : Int) : 0 ≤ left → left ≤ 1048576 → l.length ≤ 9223372036854775807 → p_f20z l left < 0 ∨ (l.length : Int) ≤ left ∧ p_f20z l left = left - l.length := by
 intro h0 h1 h2
 have := fmz_f l left h0 h1 h2
 rw [p_f20z_eq]
 by_cases h : p_fmz l left < 0
 ·rw [decide_eq_true h, cond_true]; left; decide
 ·rw [decide_eq_false h, cond_false]; right; omega
/-! f20z: function 37 -/
def E_f20z : Env := envOf [(110, S_fmz)]
def F_f20z : List Value → AHeap → (Value → AHeap → Prop) → Prop
 | [.agg ⟨[.slice dc lc mc]⟩, .int .i64 left], H, K => T_f20z dc lc mc left H fun (r1 : Int) (H' : AHeap) => K (.int .i64 r1) H'
 | _, _, _ => False
def S_f20z : FSpec := { F := F_f20z, quiet := false, tame := true }
theorem f20z_vc (dc : OA) (lc : Nat) (mc : Nat) (left : Int) (H : AHeap) (K : Value → AHeap → Prop) : bodyL Try.prog E_f20z Try.f37 [.agg #[.slice dc lc mc], .int .i64 left] H K =
 (Al [.slice dc lc mc] H fun b1 H1 => ∃ sc : OA, ∃ bb : Nat, ∃ tc : Nat,  rdC H1 b1 0 = some (.slice sc bb tc) ∧ T_fmz sc bb tc left H1 fun (r1 : Int) (H2 : AHeap) => Br (decide ((r1 : Int) < 0)) (K (.int .i64 (-1)) H2) (K (.int .i64 r1) H2)) := by kernel_rfl
theorem E_f20z_ok : ∀ g, FnOk Try.prog g (E_f20z g) := FnOk.envOf (by
 intro x hx
 simp only [List.mem_cons, List.not_mem_nil, or_false] at hx
 subst hx; exact fmz_ok)
theorem f20z_main (dc : OA) (lc : Nat) (mc : Nat) (left : Int) (H : AHeap) (K : Value → AHeap → Prop) (h : T_f20z dc lc mc left H fun (r1 : Int) (H' : AHeap) => K (.int .i64 r1) H') : bodyL Try.prog E_f20z Try.f37 [.agg #[.slice dc lc mc], .int .i64 left] H K := by
 rw [f20z_vc]
 obtain ⟨qb, i_a_Low, hk⟩ := h
 obtain rfl := i_a_Low.eqn
 have e : (p_f20z qb left) = _ := rfl
 have e := e.trans (p_f20z_eq qb left)
 have g0 := Grow.refl H
 refine Al.intro (fun b_1 H_1 hb_2 hl_3 g_4 o_5 => ?_)
 have l7 := g_4.1
 have g8 := g0.trans g_4
 have l9 := g8.1
 have w12 := o_5.lt
 refine ⟨dc, qb.length, mc, (o_5.rdC _).trans rfl, ?_⟩
 refine T_fmz_i ⟨_, (i_a_Low.grow g8), ?_⟩
 have z10 := fmz_f qb left
 refine Br.intro (fun c11 => ?_) (fun c11 => ?_)
 ·have e := e.trans (cond_t c11)
  have c_11' := of_decide_eq_true c11
  rw [e] at hk
  exact hk  H_1 g8 
 ·have e := e.trans (cond_f c11)
  have c_11' := of_decide_eq_false c11
  rw [e] at hk
  exact hk  H_1 g8 
theorem f20z_ok : FnOk Try.prog 37 S_f20z := by
 refine FnOk.body mix_ok E_f20z_ok Try.func37 rfl ω15 ω15 ?_ ?_ ?_ ?_ ?_
 ·intro args H K K' h hk
  simp only [S_f20z] at *
  unfold F_f20z at *
  split at hk
  ·obtain ⟨qb, i_a_Low, k⟩ := hk
   exact ⟨qb, i_a_Low, (fun  H' gg  => h _ _ (k  H' gg ))⟩
  ·exact hk.elim
 ·intro hq; cases hq
 ·intro args H K hk
  simp only [S_f20z] at *
  unfold F_f20z at *
  split at hk
  ·obtain ⟨qb, i_a_Low, k⟩ := hk
   exact ⟨_, _, k H (Grow.refl H)⟩
  ·exact hk.elim
 ·intro _ args H K hk
  simp only [S_f20z] at *
  unfold F_f20z at *
  split at hk
  ·obtain ⟨qb, i_a_Low, k⟩ := hk
   exact ⟨qb, i_a_Low, (fun  H' gg  => ⟨gg, k  H' gg ⟩)⟩
  ·exact hk.elim
 ·have mm := @f20z_main
  have ml := fun (args : List Value) (H : AHeap) (K : Value → AHeap → Prop) => bodyL_body (P := Try.prog) (env := E_f20z ) (fn := Try.f37) (args := args) (H := H) (K := K) E_f20z_ok 
  revert mm ml
  generalize bodyK Try.prog E_f20z Try.f37 = Q
  generalize bodyL Try.prog E_f20z Try.f37 = QL
  intro mm ml args H K hk
  simp only [S_f20z] at *
  unfold F_f20z at *
  split at hk
  ·exact ml _ H K (mm _ _ _ _ H K hk)
  ·exact hk.elim

def p_fnz_l1 (l_a : LN) : Nat → Int → LN → LN
 | 0, _, _ => []
 | μ + 1, i, y1_1 => (bif decide ((i : Int) < (l_a.length : Int)) then (p_fnz_l1 l_a μ (i + 1) (((y1_1).set (i : Int).toNat ((((l_a).getD (i : Int).toNat 0)))))) else y1_1)
def p_fnz_l1_s := fun l_a μ i y1_1 => @p_fnz_l1.eq_2 l_a i y1_1 μ
def p_fnz (l_a : LN) : LN := (p_fnz_l1 l_a (Int.toNat ((l_a.length : Int) - (0 : Int)) + 1) (0 : Int) (List.replicate (((l_a.length : Int)).toNat) 0))
def p_fnz_eq := @p_fnz.eq_1
def T_fnz (a_a : OA) (a_n : Nat) (a_e : Nat) (H : AHeap) (K : OA → Nat → Nat → AHeap → Prop) : Prop := ∃ (l_a : LN), IsL fF H a_a a_n l_a ∧ l_a.length < 1073741824 ∧ ((∀ (ib : OA) (kb jb : Nat), ∀ H' : AHeap, Grow H H' → OwnS fF H' H.length ib kb jb l_a → K ib kb jb H'))
theorem T_fnz_i {a_a : OA} {a_n : Nat} {a_e : Nat} {H : AHeap} {K : OA → Nat → Nat → AHeap → Prop} (h : ∃ (l_a : LN), IsL fF H a_a a_n l_a ∧ l_a.length < 1073741824 ∧ ((∀ (ib : OA) (kb jb : Nat), ∀ H' : AHeap, Grow H H' → OwnS fF H' H.length ib kb jb l_a → K ib kb jb H'))) : T_fnz a_a a_n a_e H K := h
theorem fnz_go (l : LN) : ∀ (μ : Nat) (i : Nat) (ys : LN), ys.length = l.length → i ≤ l.length → l.length - i < μ →
  p_fnz_l1 l μ (i : Int) (l.take i ++ ys.drop i) = l := by
 intro μ
 induction μ with
 | zero => intro i ys _ _ h; omega
 | succ μ ih =>
  intro i ys hy hi hm
  rw [p_fnz_l1_s]
  by_cases h : i < l.length
  ·rw [decide_eq_true (show (i : Int) < (l.length : Int) by omega), cond_true]
   have hx : l[i]? = some (l.getD i 0) := by rw [List.getD_eq_getElem?_getD, List.getElem?_eq_getElem h]; rfl
   rw [Int.toNat_natCast, set_front l ys i ω2 hy.symm _ hx]
   exact ih (i + 1) ys hy ω2 ω2
  ·rw [decide_eq_false (show ¬ (i : Int) < (l.length : Int) by omega), cond_false]
   rw [List.take_of_length_le ω2, List.drop_eq_nil_of_le ω2, List.append_nil]
theorem fnz_id (l : LN) : p_fnz l = l := by
 rw [p_fnz_eq]
 have := fnz_go l (Int.toNat ((l.length : Int) - 0) + 1) 0 (List.replicate ((l.length : Int)).toNat 0) (by simp) ω2 ω2
 simpa using this
/-! fnz: function 22 -/
def E_fnz : Env := envOf []
def F_fnz : List Value → AHeap → (Value → AHeap → Prop) → Prop
 | [.slice a_a a_n a_e], H, K => T_fnz a_a a_n a_e H fun (ib : OA) (kb : Nat) (jb : Nat) (H' : AHeap) => K (.slice ib kb jb) H'
 | _, _, _ => False
def S_fnz : FSpec := { F := F_fnz, quiet := false, tame := true }
theorem fnz_vc (a_a : OA) (a_n : Nat) (a_e : Nat) (H : AHeap) (K : Value → AHeap → Prop) : bodyL Try.prog E_fnz Try.f22 [.slice a_a a_n a_e] H K =
 ((0 : Int) ≤ (a_n : Int) ∧ (a_n : Int) = (a_n : Int) ∧ (a_n : Int) < (most : Int) ∧ Al (zerosOf (.float .f32 0) ((a_n : Int)).toNat) H fun b1 H1 => loopK (exL Try.prog E_fnz (cl (cl (cr (cl (cr (cr (bodyC Try.f22))))))) 25 4 [(0, 8)]) (.slice a_a a_n a_e :: ud2 (.slice (some ⟨b1, 0, none⟩) (((a_n : Int)).toNat) 1 :: .int .i64 0 :: ud17 [])) H1 (blockQ 0 (seqQ (exL Try.prog E_fnz (cr (cr (cr (bodyC Try.f22)))) 4 4 []) (retK Try.prog Try.f22 K)))) := by kernel_rfl
abbrev fnz_P1 (a_a : OA) (a_e : Nat) (a_n : Nat) (b1 : Nat) (i : Int)  : List Value := (.slice a_a a_n a_e :: ud2 (.slice (some ⟨b1, 0, none⟩) (((a_n : Int)).toNat) 1 :: .int .i64 i :: ud17 []))
theorem fnz_r1 (a_a : OA) (a_e : Nat) (a_n : Nat) (b1 : Nat) (i : Int)  (H : AHeap) (R : Post) : exL Try.prog E_fnz (cl (cl (cr (cl (cr (cr (bodyC Try.f22))))))) 25 4 [(0, 8)] (fnz_P1 a_a a_e a_n b1 i) H R =
 (Br (decide ((i : Int) < (a_n : Int))) ((0 : Int) ≤ i ∧ i < (a_n : Int) ∧ ∃ b2 f1, (a_a : OA) = some ⟨b2, f1, none⟩ ∧ ∃ x1 : Nat,  rdC H b2 (f1 + (i : Int).toNat * 1) = some (.float .f32 x1) ∧ (0 : Int) ≤ i ∧ i < (((a_n : Int)).toNat : Int) ∧ ∃ b3 f2, (some ⟨b1, 0, none⟩ : OA) = some ⟨b3, f2, none⟩ ∧ isOwn H b3 ∧ (∃ l, rdN H b3 (f2 + (i : Int).toNat * 1) 1 = some l) ∧ Lt (setC H b3 (f2 + (i : Int).toNat * 1) (.float .f32 x1)) fun H2 => R .normal (.slice a_a a_n a_e :: ud2 (.slice (some ⟨b1, 0, none⟩) (((a_n : Int)).toNat) 1 :: .int .i64 (IntKind.wrap .i64 (i + 1)) :: ud17 [])) H2) (R (.exit 0) (ud3 (.slice (some ⟨b1, 0, none⟩) (((a_n : Int)).toNat) 1 :: ud18 [])) H)) := by kernel_rfl
def fnz_I1 (a_a : OA) (a_e : Nat) (a_n : Nat) (b1 : Nat) (Inv : Nat → Int → AHeap → Prop) : Nat → List Value → AHeap → Prop := fun μ tm H => ∃ (i : Int), tm = (fnz_P1 a_a a_e a_n b1 i) ∧ Inv μ i H
theorem fnz_L1 (a_a : OA) (a_e : Nat) (a_n : Nat) (b1 : Nat) {Q : Post} (Inv : Nat → Int → AHeap → Prop) (ν : Nat) (i : Int)  (H : AHeap) (h0 : Inv ν i H)
  (hs : ∀ (μ : Nat) (i : Int)  (H : AHeap), Inv μ i H → exL Try.prog E_fnz (cl (cl (cr (cl (cr (cr (bodyC Try.f22))))))) 25 4 [(0, 8)] (fnz_P1 a_a a_e a_n b1 i) H (loopQ (fnz_I1 a_a a_e a_n b1 Inv) μ Q)) : loopK (exL Try.prog E_fnz (cl (cl (cr (cl (cr (cr (bodyC Try.f22))))))) 25 4 [(0, 8)]) (fnz_P1 a_a a_e a_n b1 i) H Q :=
 ⟨fnz_I1 a_a a_e a_n b1 Inv, ν, ⟨i, rfl, h0⟩, fun μ tm H h => by obtain ⟨i, rfl, hI⟩ := h; exact hs μ i  H hI⟩
theorem fnz_n1 {a_a : OA} {a_e : Nat} {a_n : Nat} {b1 : Nat} {Q : Post} {Inv : Nat → Int → AHeap → Prop} {μ : Nat} (μ' : Nat) {i : Int}  {H : AHeap} (hm : μ' < μ) (hI : Inv μ' i H) : loopQ (fnz_I1 a_a a_e a_n b1 Inv) μ Q .normal (fnz_P1 a_a a_e a_n b1 i) H := ⟨μ', hm, i, rfl, hI⟩
theorem fnz_x1_0 (a_n : Nat) (b1 : Nat) (H : AHeap) (K : Value → AHeap → Prop)  {I : Nat → List Value → AHeap → Prop} {μ : Nat} : loopQ I μ (blockQ 0 (seqQ (exL Try.prog E_fnz (cr (cr (cr (bodyC Try.f22)))) 4 4 []) (retK Try.prog Try.f22 K))) (.exit 0) (ud3 (.slice (some ⟨b1, 0, none⟩) (((a_n : Int)).toNat) 1 :: ud18 [])) H =
 (K (.slice (some ⟨b1, 0, none⟩) (((a_n : Int)).toNat) 1) H) := by kernel_rfl
theorem E_fnz_ok : ∀ g, FnOk Try.prog g (E_fnz g) := FnOk.envOf (by
 intro x hx; cases hx)
theorem ω24 {P : Prop} (h : P := by have := most_eq; omega) : P := h
theorem ω20 {P : Prop} (h : P := by first | rfl | assumption | omega | (simp; done)) : P := h
theorem ω7 {P : Prop} (h : P := by first | omega | (simp; done) | (simp; omega)) : P := h
theorem ω0 {P : Prop} (h : P := by first | omega | (simp only [List.length_set, List.length_replicate, List.length_append, List.length_cons, List.length_nil, List.length_take, List.length_drop, marks_length]; done) | (simp only [List.length_set, List.length_replicate, List.length_append, List.length_cons, List.length_nil, List.length_take, List.length_drop, marks_length]; omega)) : P := h
theorem ω19 {P : Prop} (h : P := by simp only [List.length_map]; (first | omega | (simp only [List.length_set, List.length_replicate, List.length_append, List.length_cons, List.length_nil, List.length_take, List.length_drop, marks_length]; done) | (simp only [List.length_set, List.length_replicate, List.length_append, List.length_cons, List.length_nil, List.length_take, List.length_drop, marks_length]; omega))) : P := h
theorem ω17 {P : Prop} (h : P := by first | omega) : P := h
theorem ω13 {P : Prop} (h : P := by first | assumption | omega | (simp only [List.length_set]; first | rfl | assumption | omega)) : P := h
theorem ω1 {P : Prop} (h : P := by first | omega | (simp only [List.length_append, List.length_cons, List.length_nil, List.length_set]; done) | (simp only [List.length_append, List.length_cons, List.length_nil, List.length_set]; omega)) : P := h
theorem ω12 {P : Prop} (h : P := by rw [show μ - 1 + 1 = μ from by first | omega]; exact e) : P := h
theorem ω38 {P : Prop} (h : P := by first | (simp only [List.length_replicate]; done) | omega | (simp; omega)) : P := h
theorem fnz_main (a_a : OA) (a_n : Nat) (a_e : Nat) (H : AHeap) (K : Value → AHeap → Prop) (h : T_fnz a_a a_n a_e H fun (ib : OA) (kb : Nat) (jb : Nat) (H' : AHeap) => K (.slice ib kb jb) H') : bodyL Try.prog E_fnz Try.f22 [.slice a_a a_n a_e] H K := by
 rw [fnz_vc]
 obtain ⟨l_a, i_a, bd_29, hk⟩ := h
 have hk : (∀ (ib : OA) (kb jb : Nat), ∀ H' : AHeap, Grow H H' → OwnS fF H' H.length ib kb jb (p_fnz l_a) → (fun (ib : OA) (kb : Nat) (jb : Nat) (H' : AHeap) => K (.slice ib kb jb) H') ib kb jb H') := by rw [fnz_id l_a]; exact hk
 obtain rfl := i_a.eqn
 have e : (p_fnz l_a) = _ := rfl
 have e := e.trans (p_fnz_eq l_a)
 have g0 := Grow.refl H
 refine ⟨by omega, rfl, ω24, ?_⟩
 refine Al.intro (fun b_1 H_1 hb_2 hl_3 g_4 o_5 => ?_)
 rw [zeros_map fF 0 _ rfl] at o_5
 have l7 := g_4.1
 have g8 := g0.trans g_4
 have l9 := g8.1
 have w28 := o_5.lt
 refine fnz_L1 _ _ _ _ (fun (μ : Nat) (i : Int) (H_2 : AHeap) => ∃ (y1_1 : LN), Own H_2 b_1 (y1_1.map fF) ∧ y1_1.length = ((l_a.length : Int)).toNat ∧ Grow H H_2 ∧ (0 : Int) ≤ i ∧ i ≤ (l_a.length : Int) ∧ (l_a.length : Int) - i ≤ (μ : Int) ∧ p_fnz l_a = p_fnz_l1 l_a (μ + 1) i y1_1) (Int.toNat ((l_a.length : Int) - (0 : Int))) _ H_1 ?_ ?_
 ·exact ⟨_, o_5, ω20, g8, ω7, ω7, ω2, e⟩
 ·intro μ i  H_2 hI
  obtain ⟨y1_1, o10, y11, g12, v13, v14, hμ, e⟩ := hI
  rw [fnz_r1]
  have e := e.trans (p_fnz_l1_s l_a μ i y1_1)
  have w15 := o10.lt
  have l16 := g12.1
  refine Br.intro (fun c17 => ?_) (fun c17 => ?_)
  ·have e := e.trans (cond_t c17)
   have c_17' := of_decide_eq_true c17
   obtain ⟨b_18, f19, q20⟩ := ((i_a.grow g12)).pos ω0
   refine ⟨by omega, by omega, b_18, f19, q20, ?_⟩
   refine ⟨((l_a).getD (i : Int).toNat 0), (i_a).rd g12 q20 ω2 _, ?_⟩
   refine ⟨by omega, ω2, _, _, rfl, ?_⟩
   refine Lt.set o10 ω19 (fun H_3 hl_21 o23 k22 => ?_)
   have o23 := map_set o23
   have l24 := k22.1
   have g25 := g12.keep (b := b_1) ω2 k22
   have l26 := g25.1
   have w27 := o23.lt
   rw [show IntKind.wrap .i64 (i + 1) = (i + 1) from wrap64 ω2 ω2]
   refine fnz_n1 (μ - 1) ω17 ⟨_, o23, ω13, g25, ω1, ω1, ω17, ω12⟩
  ·have e := e.trans (cond_f c17)
   have c_17' := of_decide_eq_false c17
   rw [fnz_x1_0]
   rw [e] at hk
   exact hk _ _ _ H_2 g12 (o10.ownS ω38 ω2)
theorem fnz_ok : FnOk Try.prog 22 S_fnz := by
 refine FnOk.body mix_ok E_fnz_ok Try.func22 rfl ω15 ω15 ?_ ?_ ?_ ?_ ?_
 ·intro args H K K' h hk
  simp only [S_fnz] at *
  unfold F_fnz at *
  split at hk
  ·obtain ⟨l_a, i_a, bd_29, k⟩ := hk
   exact ⟨l_a, i_a, bd_29, (fun ib kb jb H' gg ow0 => h _ _ (k ib kb jb H' gg ow0))⟩
  ·exact hk.elim
 ·intro hq; cases hq
 ·intro args H K hk
  simp only [S_fnz] at *
  unfold F_fnz at *
  split at hk
  ·obtain ⟨l_a, i_a, bd_29, k⟩ := hk
   exact liveS fun a n e H1 g o => ⟨_, _, k a n e H1 g o⟩
  ·exact hk.elim
 ·intro _ args H K hk
  simp only [S_fnz] at *
  unfold F_fnz at *
  split at hk
  ·obtain ⟨l_a, i_a, bd_29, k⟩ := hk
   exact ⟨l_a, i_a, bd_29, (fun ib kb jb H' gg ow0 => ⟨gg, k ib kb jb H' gg ow0⟩)⟩
  ·exact hk.elim
 ·have mm := @fnz_main
  have ml := fun (args : List Value) (H : AHeap) (K : Value → AHeap → Prop) => bodyL_body (P := Try.prog) (env := E_fnz ) (fn := Try.f22) (args := args) (H := H) (K := K) E_fnz_ok 
  revert mm ml
  generalize bodyK Try.prog E_fnz Try.f22 = Q
  generalize bodyL Try.prog E_fnz Try.f22 = QL
  intro mm ml args H K hk
  simp only [S_fnz] at *
  unfold F_fnz at *
  split at hk
  ·exact ml _ H K (mm _ _ _ H K hk)
  ·exact hk.elim

def p_f21z (qb : LN) : LN := qb
def p_f21z_eq := @p_f21z.eq_1
def T_f21z (dc : OA) (lc : Nat) (mc : Nat) (H : AHeap) (K : OA → Nat → Nat → AHeap → Prop) : Prop := ∃ (qb : LN), IsL fF H dc lc qb ∧ qb.length < 1073741824 ∧ ((∀ (ee : OA) (ie fe : Nat), ∀ H' : AHeap, Grow H H' → OwnS fF H' H.length ee ie fe qb → K ee ie fe H'))
theorem T_f21z_i {dc : OA} {lc : Nat} {mc : Nat} {H : AHeap} {K : OA → Nat → Nat → AHeap → Prop} (h : ∃ (qb : LN), IsL fF H dc lc qb ∧ qb.length < 1073741824 ∧ ((∀ (ee : OA) (ie fe : Nat), ∀ H' : AHeap, Grow H H' → OwnS fF H' H.length ee ie fe qb → K ee ie fe H'))) : T_f21z dc lc mc H K := h
theorem f21z_id (l : LN) : p_f21z l = l := rfl
/-! f21z: function 39 -/
def E_f21z : Env := envOf [(22, S_fnz)]
def F_f21z : List Value → AHeap → (Value → AHeap → Prop) → Prop
 | [.agg ⟨[.slice dc lc mc]⟩], H, K => T_f21z dc lc mc H fun (ee : OA) (ie : Nat) (fe : Nat) (H' : AHeap) => K (.agg #[.slice ee ie fe]) H'
 | _, _, _ => False
def S_f21z : FSpec := { F := F_f21z, quiet := false, tame := true }
theorem f21z_vc (dc : OA) (lc : Nat) (mc : Nat) (H : AHeap) (K : Value → AHeap → Prop) : bodyL Try.prog E_f21z Try.f39 [.agg #[.slice dc lc mc]] H K =
 (Al [.slice dc lc mc] H fun b1 H1 => Al [.slice none 0 0] H1 fun b2 H2 => Al [.slice none 0 0] H2 fun b3 H3 => ∃ sc : OA, ∃ bb : Nat, ∃ tc : Nat,  rdC H3 b1 0 = some (.slice sc bb tc) ∧ T_fnz sc bb tc H3 fun (a1 : OA) (r1 : Nat) (r2 : Nat) (H4 : AHeap) => isOwn H4 b3 ∧ (∃ l, rdN H4 b3 0 1 = some l) ∧ Lt (setC H4 b3 0 (.slice a1 r1 r2)) fun H5 => ∃ xe : OA, ∃ ze : Nat, ∃ ye : Nat,  rdN H5 b3 0 1 = some [.slice xe ze ye] ∧ isOwn H5 b2 ∧ (∃ l, rdN H5 b2 0 1 = some l) ∧ Lt (setN H5 b2 0 [.slice xe ze ye]) fun H6 => ∃ af : OA, ∃ cf : Nat, ∃ bf : Nat,  rdN H6 b2 0 1 = some [.slice af cf bf] ∧ K (.agg #[.slice af cf bf]) H6) := by kernel_rfl
theorem E_f21z_ok : ∀ g, FnOk Try.prog g (E_f21z g) := FnOk.envOf (by
 intro x hx
 simp only [List.mem_cons, List.not_mem_nil, or_false] at hx
 subst hx; exact fnz_ok)
theorem f21z_main (dc : OA) (lc : Nat) (mc : Nat) (H : AHeap) (K : Value → AHeap → Prop) (h : T_f21z dc lc mc H fun (ee : OA) (ie : Nat) (fe : Nat) (H' : AHeap) => K (.agg #[.slice ee ie fe]) H') : bodyL Try.prog E_f21z Try.f39 [.agg #[.slice dc lc mc]] H K := by
 rw [f21z_vc]
 obtain ⟨qb, i_a_Low, bd_78, hk⟩ := h
 have hk : (∀ (ee : OA) (ie fe : Nat), ∀ H' : AHeap, Grow H H' → OwnS fF H' H.length ee ie fe (p_f21z qb) → (fun (ee : OA) (ie : Nat) (fe : Nat) (H' : AHeap) => K (.agg #[.slice ee ie fe]) H') ee ie fe H') := by rw [f21z_id qb]; exact hk
 obtain rfl := i_a_Low.eqn
 have e : (p_f21z qb) = _ := rfl
 have e := e.trans (p_f21z_eq qb)
 have g0 := Grow.refl H
 refine Al.intro (fun b_1 H_1 hb_2 hl_3 g_4 o_5 => ?_)
 have l7 := g_4.1
 have g8 := g0.trans g_4
 have l9 := g8.1
 have w77 := o_5.lt
 refine Al.intro (fun b_10 H_2 hb_11 hl_12 g13 o14 => ?_)
 have l16 := g13.1
 have g17 := g8.trans g13
 have l18 := g17.1
 have o19 := o_5.grow g13
 have w20 := o19.lt
 have w76 := o14.lt
 refine Al.intro (fun b21 H_3 hb_22 hl_23 g24 o25 => ?_)
 have l27 := g24.1
 have g28 := g17.trans g24
 have l29 := g28.1
 have o30 := o19.grow g24
 have w31 := o30.lt
 have o32 := o14.grow g24
 have w33 := o32.lt
 have w75 := o25.lt
 refine ⟨dc, qb.length, mc, (o30.rdC _).trans rfl, ?_⟩
 refine T_fnz_i ⟨_, (i_a_Low.grow g28), ω0, fun a34 n35 e36 H_4 g38 r37 => ?_⟩
 have l39 := g38.1
 have g40 := g28.trans g38
 have l41 := g40.1
 have o42 := o30.grow g38
 have w43 := o42.lt
 have o44 := o32.grow g38
 have w45 := o44.lt
 have o46 := o25.grow g38
 have w47 := o46.lt
 obtain rfl := r37.isL.eqn
 have u48 := r37.up
 have u49 := r37.lo
 refine Lt.set o46 (Nat.le_of_ble_eq_true rfl) (fun H_5 hl_51 o53 k52 => ?_)
 have o53 : Own H_5 b21 [.slice a34 ((qb).length) e36] := o53
 have l54 := k52.1
 have g55 := g40.keep (b := b21) ω2 k52
 have l56 := g55.1
 have o57 := o42.keep ω2 k52
 have w58 := o57.lt
 have o59 := o44.keep ω2 k52
 have w60 := o59.lt
 have r61 := r37.keep u48 ω2 k52
 have w74 := o53.lt
 refine ⟨a34, (qb).length, e36, (o53.rdN (Nat.le_of_ble_eq_true rfl)).trans rfl, ?_⟩
 refine Lt.setN (n := 1) o59 (Nat.le_of_ble_eq_true rfl) rfl (fun H_6 hl_62 o64 k63 => ?_)
 have o64 : Own H_6 b_10 [.slice a34 ((qb).length) e36] := o64
 have l65 := k63.1
 have g66 := g55.keep (b := b_10) ω2 k63
 have l67 := g66.1
 have o68 := o57.keep ω2 k63
 have w69 := o68.lt
 have o70 := o53.keep ω2 k63
 have w71 := o70.lt
 have r72 := r61.keep u48 ω2 k63
 have w73 := o64.lt
 refine ⟨a34, (qb).length, e36, (o64.rdN (Nat.le_of_ble_eq_true rfl)).trans rfl, ?_⟩
 rw [e] at hk
 exact hk _ _ _ H_6 g66 (r72.weak ω2)
theorem f21z_ok : FnOk Try.prog 39 S_f21z := by
 refine FnOk.body mix_ok E_f21z_ok Try.func39 rfl ω15 ω15 ?_ ?_ ?_ ?_ ?_
 ·intro args H K K' h hk
  simp only [S_f21z] at *
  unfold F_f21z at *
  split at hk
  ·obtain ⟨qb, i_a_Low, bd_78, k⟩ := hk
   exact ⟨qb, i_a_Low, bd_78, (fun ee ie fe H' gg ow0 => h _ _ (k ee ie fe H' gg ow0))⟩
  ·exact hk.elim
 ·intro hq; cases hq
 ·intro args H K hk
  simp only [S_f21z] at *
  unfold F_f21z at *
  split at hk
  ·obtain ⟨qb, i_a_Low, bd_78, k⟩ := hk
   exact liveS fun a n e H1 g o => ⟨_, _, k a n e H1 g o⟩
  ·exact hk.elim
 ·intro _ args H K hk
  simp only [S_f21z] at *
  unfold F_f21z at *
  split at hk
  ·obtain ⟨qb, i_a_Low, bd_78, k⟩ := hk
   exact ⟨qb, i_a_Low, bd_78, (fun ee ie fe H' gg ow0 => ⟨gg, k ee ie fe H' gg ow0⟩)⟩
  ·exact hk.elim
 ·have mm := @f21z_main
  have ml := fun (args : List Value) (H : AHeap) (K : Value → AHeap → Prop) => bodyL_body (P := Try.prog) (env := E_f21z ) (fn := Try.f39) (args := args) (H := H) (K := K) E_f21z_ok 
  revert mm ml
  generalize bodyK Try.prog E_f21z Try.f39 = Q
  generalize bodyL Try.prog E_f21z Try.f39 = QL
  intro mm ml args H K hk
  simp only [S_f21z] at *
  unfold F_f21z at *
  split at hk
  ·exact ml _ H K (mm _ _ _ H K hk)
  ·exact hk.elim
def p_fyz (x : Nat) : Bool := feq .f32 (fsub .f32 x x) 0
def T_fyz (x : Nat) (H : AHeap) (K : Bool → AHeap → Prop) : Prop := K (p_fyz x) H

theorem T_fyz_i {x : Nat} {H : AHeap} {K : Bool → AHeap → Prop} (h : K (p_fyz x) H) : T_fyz x H K := h
/-! fyz: function 155 -/
def E_fyz : Env := envOf []
def F_fyz : List Value → AHeap → (Value → AHeap → Prop) → Prop
 | [.float .f32 x], H, K => T_fyz x H fun (r1 : Bool) (H' : AHeap) => K (.bool r1) H'
 | _, _, _ => False
def S_fyz : FSpec := { F := F_fyz, quiet := true, tame := false }
theorem fyz_vc (x : Nat) (H : AHeap) (K : Value → AHeap → Prop) : bodyL Try.prog E_fyz Try.f155 [.float .f32 x] H K =
 (K (.bool (feq .f32 (fsub .f32 x x) 0)) H) := by kernel_rfl
theorem E_fyz_ok : ∀ g, FnOk Try.prog g (E_fyz g) := FnOk.envOf (by
 intro x hx; cases hx)
theorem fyz_main (x : Nat) (H : AHeap) (K : Value → AHeap → Prop) (h : T_fyz x H fun (r1 : Bool) (H' : AHeap) => K (.bool r1) H') : bodyL Try.prog E_fyz Try.f155 [.float .f32 x] H K := by
 rw [fyz_vc]
 unfold T_fyz p_fyz at h
 repeat' (first | exact h | (exfalso; simp_all; done) | (refine ⟨by decide, ?_⟩) | (refine Br.intro (fun hb => ?_) (fun hb => ?_) <;> (try simp only [hb, cond_true, cond_false, Bool.not_true, Bool.not_false] at h)))
theorem fyz_ok : FnOk Try.prog 155 S_fyz := by
 refine FnOk.body mix_ok E_fyz_ok Try.func155 rfl ω15 ω15 ?_ ?_ ?_ ?_ ?_
 ·intro args H K K' h hk
  simp only [S_fyz] at *
  unfold F_fyz at *
  split at hk
  ·have k := hk
   exact h _ _ k
  ·exact hk.elim
 ·intro _ args H K hk
  simp only [S_fyz] at *
  unfold F_fyz at *
  split at hk
  ·have k := hk
   exact ⟨_, k, fun K' k' => k'⟩
  ·exact hk.elim
 ·intro args H K hk
  simp only [S_fyz] at *
  unfold F_fyz at *
  split at hk
  ·have k := hk
   exact ⟨_, _, k⟩
  ·exact hk.elim
 ·intro hq; cases hq
 ·have mm := @fyz_main
  have ml := fun (args : List Value) (H : AHeap) (K : Value → AHeap → Prop) => bodyL_body (P := Try.prog) (env := E_fyz ) (fn := Try.f155) (args := args) (H := H) (K := K) E_fyz_ok 
  revert mm ml
  generalize bodyK Try.prog E_fyz Try.f155 = Q
  generalize bodyL Try.prog E_fyz Try.f155 = QL
  intro mm ml args H K hk
  simp only [S_fyz] at *
  unfold F_fyz at *
  split at hk
  ·exact ml _ H K (mm _ H K hk)
  ·exact hk.elim

def p_f10z_l1 (aa : LN) : Nat → Bool → Int → Bool
 | 0, _, _ => false
 | μ + 1, t2, i => (bif decide ((i : Int) < (aa.length : Int)) then (bif !((p_fyz (((aa).getD (i : Int).toNat 0)))) then false else (p_f10z_l1 aa μ t2 (i + 1))) else true)
def p_f10z_l1_s := fun aa μ t2 i => @p_f10z_l1.eq_2 aa t2 i μ
def p_f10z (aa : LN) : Bool := (p_f10z_l1 aa (Int.toNat ((aa.length : Int) - (0 : Int)) + 1) false (0 : Int))
def p_f10z_eq := @p_f10z.eq_1
def T_f10z (ea : OA) (da : Nat) (ga : Nat) (H : AHeap) (K : Bool → AHeap → Prop) : Prop := ∃ (aa : LN), IsL fF H ea da aa ∧ aa.length < 1073741824 ∧ K (p_f10z aa) H
theorem T_f10z_i {ea : OA} {da : Nat} {ga : Nat} {H : AHeap} {K : Bool → AHeap → Prop} (h : ∃ (aa : LN), IsL fF H ea da aa ∧ aa.length < 1073741824 ∧ K (p_f10z aa) H) : T_f10z ea da ga H K := h

/-! f10z: function 104 -/
def E_f10z : Env := envOf [(155, S_fyz)]
def F_f10z : List Value → AHeap → (Value → AHeap → Prop) → Prop
 | [.slice ea da ga], H, K => T_f10z ea da ga H fun (r1 : Bool) (H' : AHeap) => K (.bool r1) H'
 | _, _, _ => False
def S_f10z : FSpec := { F := F_f10z, quiet := true, tame := false }
theorem f10z_vc (ea : OA) (da : Nat) (ga : Nat) (H : AHeap) (K : Value → AHeap → Prop) : bodyL Try.prog E_f10z Try.f104 [.slice ea da ga] H K =
 (loopK (exL Try.prog E_f10z (cl (cl (cr (cl (cr (bodyC Try.f104)))))) 9 4 [(0, 0)]) (.slice ea da ga :: ud2 (.int .i64 0 :: ud12 [])) H (blockQ 0 (seqQ (exL Try.prog E_f10z (cr (cr (bodyC Try.f104))) 4 4 []) (retK Try.prog Try.f104 K)))) := by kernel_rfl
abbrev f10z_P1 (ea : OA) (ga : Nat) (da : Nat) (i : Int)  : List Value := (.slice ea da ga :: ud2 (.int .i64 i :: ud12 []))
theorem f10z_r1 (ea : OA) (ga : Nat) (da : Nat) (i : Int)  (H : AHeap) (R : Post) : exL Try.prog E_f10z (cl (cl (cr (cl (cr (bodyC Try.f104)))))) 9 4 [(0, 0)] (f10z_P1 ea ga da i) H R =
 (Br (decide ((i : Int) < (da : Int))) ((0 : Int) ≤ i ∧ i < (da : Int) ∧ ∃ b1 f1, (ea : OA) = some ⟨b1, f1, none⟩ ∧ ∃ x1 : Nat,  rdC H b1 (f1 + (i : Int).toNat * 1) = some (.float .f32 x1) ∧ T_fyz x1 H fun (r1 : Bool) (H1 : AHeap) => Br (!r1) (R .ret (ud2 (.bool false :: ud13 [])) H1) (R .normal (.slice ea da ga :: ud2 (.int .i64 (IntKind.wrap .i64 (i + 1)) :: ud12 [])) H1)) (R (.exit 0) (ud16 []) H)) := by kernel_rfl
def f10z_I1 (ea : OA) (ga : Nat) (da : Nat) (Inv : Nat → Int → AHeap → Prop) : Nat → List Value → AHeap → Prop := fun μ tm H => ∃ (i : Int), tm = (f10z_P1 ea ga da i) ∧ Inv μ i H
theorem f10z_L1 (ea : OA) (ga : Nat) (da : Nat) {Q : Post} (Inv : Nat → Int → AHeap → Prop) (ν : Nat) (i : Int)  (H : AHeap) (h0 : Inv ν i H)
  (hs : ∀ (μ : Nat) (i : Int)  (H : AHeap), Inv μ i H → exL Try.prog E_f10z (cl (cl (cr (cl (cr (bodyC Try.f104)))))) 9 4 [(0, 0)] (f10z_P1 ea ga da i) H (loopQ (f10z_I1 ea ga da Inv) μ Q)) : loopK (exL Try.prog E_f10z (cl (cl (cr (cl (cr (bodyC Try.f104)))))) 9 4 [(0, 0)]) (f10z_P1 ea ga da i) H Q :=
 ⟨f10z_I1 ea ga da Inv, ν, ⟨i, rfl, h0⟩, fun μ tm H h => by obtain ⟨i, rfl, hI⟩ := h; exact hs μ i  H hI⟩
theorem f10z_n1 {ea : OA} {ga : Nat} {da : Nat} {Q : Post} {Inv : Nat → Int → AHeap → Prop} {μ : Nat} (μ' : Nat) {i : Int}  {H : AHeap} (hm : μ' < μ) (hI : Inv μ' i H) : loopQ (f10z_I1 ea ga da Inv) μ Q .normal (f10z_P1 ea ga da i) H := ⟨μ', hm, i, rfl, hI⟩
theorem f10z_x1_0  (H : AHeap) (K : Value → AHeap → Prop)  {I : Nat → List Value → AHeap → Prop} {μ : Nat} : loopQ I μ (blockQ 0 (seqQ (exL Try.prog E_f10z (cr (cr (bodyC Try.f104))) 4 4 []) (retK Try.prog Try.f104 K))) (.exit 0) (ud16 []) H =
 (K (.bool true) H) := by kernel_rfl
theorem f10z_x1_ret (t2 : Bool) (H : AHeap) (K : Value → AHeap → Prop)  {I : Nat → List Value → AHeap → Prop} {μ : Nat} : loopQ I μ (blockQ 0 (seqQ (exL Try.prog E_f10z (cr (cr (bodyC Try.f104))) 4 4 []) (retK Try.prog Try.f104 K))) .ret (ud2 (.bool t2 :: ud13 [])) H =
 (K (.bool t2) H) := by kernel_rfl
theorem E_f10z_ok : ∀ g, FnOk Try.prog g (E_f10z g) := FnOk.envOf (by
 intro x hx
 simp only [List.mem_cons, List.not_mem_nil, or_false] at hx
 subst hx; exact fyz_ok)
theorem f10z_main (ea : OA) (da : Nat) (ga : Nat) (H : AHeap) (K : Value → AHeap → Prop) (h : T_f10z ea da ga H fun (r1 : Bool) (H' : AHeap) => K (.bool r1) H') : bodyL Try.prog E_f10z Try.f104 [.slice ea da ga] H K := by
 rw [f10z_vc]
 obtain ⟨aa, i_list, bd_9, hk⟩ := h
 obtain rfl := i_list.eqn
 have e : (p_f10z aa) = _ := rfl
 have e := e.trans (p_f10z_eq aa)
 have g0 := Grow.refl H
 refine f10z_L1 _ _ _ (fun (μ : Nat) (i : Int) (H_1 : AHeap) => ∃ (t2 : Bool), H = H_1 ∧ (0 : Int) ≤ i ∧ i ≤ (aa.length : Int) ∧ (aa.length : Int) - i ≤ (μ : Int) ∧ p_f10z aa = p_f10z_l1 aa (μ + 1) t2 i) (Int.toNat ((aa.length : Int) - (0 : Int))) _ H ?_ ?_
 ·exact ⟨_, rfl, ω7, ω7, ω2, e⟩
 ·intro μ i  H_1 hI
  obtain ⟨t2, rfl, v_1, v_2, hμ, e⟩ := hI
  rw [f10z_r1]
  have e := e.trans (p_f10z_l1_s aa μ t2 i)
  have l3 := g0.1
  refine Br.intro (fun c_4 => ?_) (fun c_4 => ?_)
  ·have e := e.trans (cond_t c_4)
   have c_4' := of_decide_eq_true c_4
   obtain ⟨b_5, f_6, q7⟩ := ((i_list.grow g0)).pos ω0
   refine ⟨by omega, by omega, b_5, f_6, q7, ?_⟩
   refine ⟨((aa).getD (i : Int).toNat 0), (i_list).rd g0 q7 ω2 _, ?_⟩
   refine T_fyz_i ?_
   refine Br.intro (fun c8 => ?_) (fun c8 => ?_)
   ·have e := e.trans (cond_t c8)
    have c_8n := nf_of_t c8
    rw [f10z_x1_ret]
    rw [e] at hk
    exact hk
   ·have e := e.trans (cond_f c8)
    have c_8n := nt_of_f c8
    rw [show IntKind.wrap .i64 (i + 1) = (i + 1) from wrap64 ω2 ω2]
    refine f10z_n1 (μ - 1) ω17 ⟨_, rfl, ω1, ω1, ω17, ω12⟩
  ·have e := e.trans (cond_f c_4)
   have c_4' := of_decide_eq_false c_4
   rw [f10z_x1_0]
   rw [e] at hk
   exact hk
theorem f10z_ok : FnOk Try.prog 104 S_f10z := by
 refine FnOk.body mix_ok E_f10z_ok Try.func104 rfl ω15 ω15 ?_ ?_ ?_ ?_ ?_
 ·intro args H K K' h hk
  simp only [S_f10z] at *
  unfold F_f10z at *
  split at hk
  ·obtain ⟨aa, i_list, bd_9, k⟩ := hk
   exact ⟨aa, i_list, bd_9, h _ _ k⟩
  ·exact hk.elim
 ·intro _ args H K hk
  simp only [S_f10z] at *
  unfold F_f10z at *
  split at hk
  ·obtain ⟨aa, i_list, bd_9, k⟩ := hk
   exact ⟨_, k, fun K' k' => ⟨aa, i_list, bd_9, k'⟩⟩
  ·exact hk.elim
 ·intro args H K hk
  simp only [S_f10z] at *
  unfold F_f10z at *
  split at hk
  ·obtain ⟨aa, i_list, bd_9, k⟩ := hk
   exact ⟨_, _, k⟩
  ·exact hk.elim
 ·intro hq; cases hq
 ·have mm := @f10z_main
  have ml := fun (args : List Value) (H : AHeap) (K : Value → AHeap → Prop) => bodyL_body (P := Try.prog) (env := E_f10z ) (fn := Try.f104) (args := args) (H := H) (K := K) E_f10z_ok 
  revert mm ml
  generalize bodyK Try.prog E_f10z Try.f104 = Q
  generalize bodyL Try.prog E_f10z Try.f104 = QL
  intro mm ml args H K hk
  simp only [S_f10z] at *
  unfold F_f10z at *
  split at hk
  ·exact ml _ H K (mm _ _ _ H K hk)
  ·exact hk.elim

def p_f1mz (aa : LN) : Bool := (bif decide ((1 : Int) ≤ (aa.length : Int)) then (bif decide (((aa.length : Int) : Int) ≤ 128) then (p_f10z aa) else false) else false)
def p_f1mz_eq := @p_f1mz.eq_1
def T_f1mz (ea : OA) (da : Nat) (ga : Nat) (H : AHeap) (K : Bool → AHeap → Prop) : Prop := ∃ (aa : LN), IsL fF H ea da aa ∧ aa.length < 1073741824 ∧ K (p_f1mz aa) H
theorem T_f1mz_i {ea : OA} {da : Nat} {ga : Nat} {H : AHeap} {K : Bool → AHeap → Prop} (h : ∃ (aa : LN), IsL fF H ea da aa ∧ aa.length < 1073741824 ∧ K (p_f1mz aa) H) : T_f1mz ea da ga H K := h
theorem f1mz_t {l : LN} (h : p_f1mz l = true) : 1 ≤ (l.length : Int) ∧ (l.length : Int) ≤ 128 := by
 rw [p_f1mz_eq] at h
 by_cases h1 : (1 : Int) ≤ (l.length : Int)
 ·rw [decide_eq_true h1, cond_true] at h
  by_cases h2 : (l.length : Int) ≤ 128
  ·exact ⟨h1, h2⟩
  ·rw [decide_eq_false h2] at h; cases h
 ·rw [decide_eq_false h1] at h; cases h
/-! f1mz: function 100 -/
def E_f1mz : Env := envOf [(104, S_f10z)]
def F_f1mz : List Value → AHeap → (Value → AHeap → Prop) → Prop
 | [.slice ea da ga], H, K => T_f1mz ea da ga H fun (r1 : Bool) (H' : AHeap) => K (.bool r1) H'
 | _, _, _ => False
def S_f1mz : FSpec := { F := F_f1mz, quiet := true, tame := false }
theorem f1mz_vc (ea : OA) (da : Nat) (ga : Nat) (H : AHeap) (K : Value → AHeap → Prop) : bodyL Try.prog E_f1mz Try.f100 [.slice ea da ga] H K =
 (Br (decide ((1 : Int) ≤ (da : Int))) (Br (decide (((da : Int) : Int) ≤ 128)) (T_f10z ea da ga H fun (r1 : Bool) (H1 : AHeap) => K (.bool r1) H1) (K (.bool false) H)) (K (.bool false) H)) := by kernel_rfl
theorem E_f1mz_ok : ∀ g, FnOk Try.prog g (E_f1mz g) := FnOk.envOf (by
 intro x hx
 simp only [List.mem_cons, List.not_mem_nil, or_false] at hx
 subst hx; exact f10z_ok)
theorem f1mz_main (ea : OA) (da : Nat) (ga : Nat) (H : AHeap) (K : Value → AHeap → Prop) (h : T_f1mz ea da ga H fun (r1 : Bool) (H' : AHeap) => K (.bool r1) H') : bodyL Try.prog E_f1mz Try.f100 [.slice ea da ga] H K := by
 rw [f1mz_vc]
 obtain ⟨aa, i_list, bd_3, hk⟩ := h
 obtain rfl := i_list.eqn
 have e : (p_f1mz aa) = _ := rfl
 have e := e.trans (p_f1mz_eq aa)
 have g0 := Grow.refl H
 refine Br.intro (fun c_1 => ?_) (fun c_1 => ?_)
 ·have e := e.trans (cond_t c_1)
  have c_1' := of_decide_eq_true c_1
  refine Br.intro (fun c_2 => ?_) (fun c_2 => ?_)
  ·have e := e.trans (cond_t c_2)
   have c_2' := of_decide_eq_true c_2
   refine T_f10z_i ⟨_, (i_list.grow g0), ω0, ?_⟩
   rw [e] at hk
   exact hk
  ·have e := e.trans (cond_f c_2)
   have c_2' := of_decide_eq_false c_2
   rw [e] at hk
   exact hk
 ·have e := e.trans (cond_f c_1)
  have c_1' := of_decide_eq_false c_1
  rw [e] at hk
  exact hk
theorem f1mz_ok : FnOk Try.prog 100 S_f1mz := by
 refine FnOk.body mix_ok E_f1mz_ok Try.func100 rfl ω15 ω15 ?_ ?_ ?_ ?_ ?_
 ·intro args H K K' h hk
  simp only [S_f1mz] at *
  unfold F_f1mz at *
  split at hk
  ·obtain ⟨aa, i_list, bd_3, k⟩ := hk
   exact ⟨aa, i_list, bd_3, h _ _ k⟩
  ·exact hk.elim
 ·intro _ args H K hk
  simp only [S_f1mz] at *
  unfold F_f1mz at *
  split at hk
  ·obtain ⟨aa, i_list, bd_3, k⟩ := hk
   exact ⟨_, k, fun K' k' => ⟨aa, i_list, bd_3, k'⟩⟩
  ·exact hk.elim
 ·intro args H K hk
  simp only [S_f1mz] at *
  unfold F_f1mz at *
  split at hk
  ·obtain ⟨aa, i_list, bd_3, k⟩ := hk
   exact ⟨_, _, k⟩
  ·exact hk.elim
 ·intro hq; cases hq
 ·have mm := @f1mz_main
  have ml := fun (args : List Value) (H : AHeap) (K : Value → AHeap → Prop) => bodyL_body (P := Try.prog) (env := E_f1mz ) (fn := Try.f100) (args := args) (H := H) (K := K) E_f1mz_ok 
  revert mm ml
  generalize bodyK Try.prog E_f1mz Try.f100 = Q
  generalize bodyL Try.prog E_f1mz Try.f100 = QL
  intro mm ml args H K hk
  simp only [S_f1mz] at *
  unfold F_f1mz at *
  split at hk
  ·exact ml _ H K (mm _ _ _ H K hk)
  ·exact hk.elim

def p_f1nz_l2 (ma : LN) (t2 : Bool) (shift : Int) (k2_2 : Nat → Int → Bool) : Nat → Nat → Int → Bool
 | 0, _, _ => false
 | μ2 + 1, sum, k => (bif decide (((k + shift) : Int) < (ma.length : Int)) then (p_f1nz_l2 ma t2 shift k2_2 μ2 (fadd .f32 sum (fmul .f32 (((ma).getD (k : Int).toNat 0)) (((ma).getD ((k + shift) : Int).toNat 0)))) (k + 1)) else (k2_2 sum k))
def p_f1nz_l2_s := fun ma t2 shift k2_2 μ2 sum k => @p_f1nz_l2.eq_2 ma t2 shift k2_2 sum k μ2
def p_f1nz_l1 (ma : LN) : Nat → Bool → Int → Bool
 | 0, _, _ => false
 | μ + 1, t2, shift => (bif decide ((shift : Int) < (ma.length : Int)) then (p_f1nz_l2 ma t2 shift (fun (sum : Nat) (k : Int) => (bif (shift : Int) == 0 then (bif fle .f32 (fsub .f32 sum 1065353216) 981668463 then (bif !(fle .f32 3129152111 (fsub .f32 sum 1065353216)) then false else (p_f1nz_l1 ma μ t2 (shift + 2))) else false) else (bif fle .f32 sum 981668463 then (bif !(fle .f32 3129152111 sum) then false else (p_f1nz_l1 ma μ t2 (shift + 2))) else false))) (Int.toNat ((ma.length : Int) - (0 : Int)) + 1) 0 (0 : Int)) else true)
def p_f1nz_l1_s := fun ma μ t2 shift => @p_f1nz_l1.eq_2 ma t2 shift μ
def p_f1nz (ma : LN) : Bool := ((bif decide (((ma.length : Int) : Int) < 2) then false else (bif decide ((8 : Int) < (ma.length : Int)) then false else (bif (Int.tmod (ma.length : Int) 2 : Int) != 0 then false else (bif !(p_f10z ma) then false else (p_f1nz_l1 ma (Int.toNat ((ma.length : Int) - (0 : Int)) + 1) false (0 : Int)))))))
def p_f1nz_eq := @p_f1nz.eq_1
def T_f1nz (p : Nat) (H : AHeap) (K : Bool → AHeap → Prop) : Prop := ∃ (zb : OA), ∃ (ic : Nat), ∃ (ec : Nat), ∃ (ma : LN), rdN H p 0 1 = some [.slice zb ic ec] ∧ IsL fF H zb ic ma ∧ ma.length < 1073741824 ∧ K (p_f1nz ma) H
theorem T_f1nz_i {p : Nat} {H : AHeap} {K : Bool → AHeap → Prop} (h : ∃ (zb : OA), ∃ (ic : Nat), ∃ (ec : Nat), ∃ (ma : LN), rdN H p 0 1 = some [.slice zb ic ec] ∧ IsL fF H zb ic ma ∧ ma.length < 1073741824 ∧ K (p_f1nz ma) H) : T_f1nz p H K := h
theorem f1nz_t {l : LN} (h : p_f1nz l = true) : 2 ≤ l.length ∧ l.length ≤ 8 := by
 rw [p_f1nz_eq] at h
 by_cases h1 : (l.length : Int) < 2
 ·rw [decide_eq_true h1] at h; cases h
 ·by_cases h2 : (8 : Int) < (l.length : Int)
  ·rw [decide_eq_false h1, decide_eq_true h2] at h; cases h
  ·exact ⟨by omega, by omega⟩
/-! f1nz: function 161 -/
def E_f1nz : Env := envOf [(104, S_f10z)]
def F_f1nz : List Value → AHeap → (Value → AHeap → Prop) → Prop
 | [.pointer (some ⟨p, 0, none⟩)], H, K => T_f1nz p H fun (r1 : Bool) (H' : AHeap) => K (.bool r1) H'
 | _, _, _ => False
def S_f1nz : FSpec := { F := F_f1nz, quiet := true, tame := false }
theorem f1nz_vc (p : Nat) (H : AHeap) (K : Value → AHeap → Prop) : bodyL Try.prog E_f1nz Try.f161 [.pointer (some ⟨p, 0, none⟩)] H K =
 (∃ sc : OA, ∃ bb : Nat, ∃ tc : Nat,  rdC H p 0 = some (.slice sc bb tc) ∧ Br (decide (((bb : Int) : Int) < 2)) (K (.bool false) H) (Br (decide ((8 : Int) < (bb : Int))) (K (.bool false) H) (2 ≠ (0 : Int) ∧ Br ((Int.tmod (bb : Int) 2 : Int) != 0) (K (.bool false) H) (∃ oe : OA, ∃ je : Nat, ∃ te : Nat,  rdC H p 0 = some (.slice oe je te) ∧ T_f10z oe je te H fun (r1 : Bool) (H1 : AHeap) => Br (!r1) (K (.bool false) H1) (loopK (exL Try.prog E_f1nz (cl (cl (cr (cl (cr (cr (cr (bodyC Try.f161)))))))) 25 4 [(0, 0)]) (.pointer (some ⟨p, 0, none⟩) :: ud2 (.int .i64 (bb : Int) :: .int .i64 0 :: ud68 [])) H1 (blockQ 0 (seqQ (exL Try.prog E_f1nz (cr (cr (cr (cr (bodyC Try.f161))))) 4 4 []) (retK Try.prog Try.f161 K)))))))) := by kernel_rfl
abbrev f1nz_P1 (p : Nat) (bb : Nat) (shift : Int)  : List Value := (.pointer (some ⟨p, 0, none⟩) :: ud2 (.int .i64 (bb : Int) :: .int .i64 shift :: ud68 []))
theorem f1nz_r1 (p : Nat) (bb : Nat) (shift : Int)  (H : AHeap) (R : Post) : exL Try.prog E_f1nz (cl (cl (cr (cl (cr (cr (cr (bodyC Try.f161)))))))) 25 4 [(0, 0)] (f1nz_P1 p bb shift) H R =
 (Br (decide ((shift : Int) < (bb : Int))) (loopK (exL Try.prog E_f1nz (cl (cl (cr (cl (cr (cl (cl (cr (cl (cl (cr (cl (cr (cr (cr (bodyC Try.f161)))))))))))))))) 121 4 [(2, 57), (1, 25), (0, 0)]) (.pointer (some ⟨p, 0, none⟩) :: ud2 (.int .i64 (bb : Int) :: .int .i64 shift :: .float .f32 0 :: .int .i64 0 :: ud66 [])) H (blockQ 2 (seqQ (exL Try.prog E_f1nz (cr (cr (cl (cl (cr (cl (cl (cr (cl (cr (cr (cr (bodyC Try.f161))))))))))))) 25 4 [(1, 25), (0, 0)]) (blockQ 1 (seqQ (exL Try.prog E_f1nz (cr (cr (cl (cl (cr (cl (cr (cr (cr (bodyC Try.f161)))))))))) 25 4 [(0, 0)]) (R)))))) (R (.exit 0) (ud73 []) H)) := by kernel_rfl
def f1nz_I1 (p : Nat) (bb : Nat) (Inv : Nat → Int → AHeap → Prop) : Nat → List Value → AHeap → Prop := fun μ tm H => ∃ (shift : Int), tm = (f1nz_P1 p bb shift) ∧ Inv μ shift H
theorem f1nz_L1 (p : Nat) (bb : Nat) {Q : Post} (Inv : Nat → Int → AHeap → Prop) (ν : Nat) (shift : Int)  (H : AHeap) (h0 : Inv ν shift H)
  (hs : ∀ (μ : Nat) (shift : Int)  (H : AHeap), Inv μ shift H → exL Try.prog E_f1nz (cl (cl (cr (cl (cr (cr (cr (bodyC Try.f161)))))))) 25 4 [(0, 0)] (f1nz_P1 p bb shift) H (loopQ (f1nz_I1 p bb Inv) μ Q)) : loopK (exL Try.prog E_f1nz (cl (cl (cr (cl (cr (cr (cr (bodyC Try.f161)))))))) 25 4 [(0, 0)]) (f1nz_P1 p bb shift) H Q :=
 ⟨f1nz_I1 p bb Inv, ν, ⟨shift, rfl, h0⟩, fun μ tm H h => by obtain ⟨shift, rfl, hI⟩ := h; exact hs μ shift  H hI⟩
theorem f1nz_n1 {p : Nat} {bb : Nat} {Q : Post} {Inv : Nat → Int → AHeap → Prop} {μ : Nat} (μ' : Nat) {shift : Int}  {H : AHeap} (hm : μ' < μ) (hI : Inv μ' shift H) : loopQ (f1nz_I1 p bb Inv) μ Q .normal (f1nz_P1 p bb shift) H := ⟨μ', hm, shift, rfl, hI⟩
theorem f1nz_x1_0  (H : AHeap) (K : Value → AHeap → Prop)  {I : Nat → List Value → AHeap → Prop} {μ : Nat} : loopQ I μ (blockQ 0 (seqQ (exL Try.prog E_f1nz (cr (cr (cr (cr (bodyC Try.f161))))) 4 4 []) (retK Try.prog Try.f161 K))) (.exit 0) (ud73 []) H =
 (K (.bool true) H) := by kernel_rfl
theorem f1nz_x1_ret (t2 : Bool) (H : AHeap) (K : Value → AHeap → Prop)  {I : Nat → List Value → AHeap → Prop} {μ : Nat} : loopQ I μ (blockQ 0 (seqQ (exL Try.prog E_f1nz (cr (cr (cr (cr (bodyC Try.f161))))) 4 4 []) (retK Try.prog Try.f161 K))) .ret (ud2 (.bool t2 :: ud70 [])) H =
 (K (.bool t2) H) := by kernel_rfl
abbrev f1nz_P2 (p : Nat) (shift : Int) (bb : Nat) (sum : Nat) (k : Int)  : List Value := (.pointer (some ⟨p, 0, none⟩) :: ud2 (.int .i64 (bb : Int) :: .int .i64 shift :: .float .f32 sum :: .int .i64 k :: ud66 []))
theorem f1nz_r2 (p : Nat) (shift : Int) (bb : Nat) (sum : Nat) (k : Int)  (H : AHeap) (R : Post) : exL Try.prog E_f1nz (cl (cl (cr (cl (cr (cl (cl (cr (cl (cl (cr (cl (cr (cr (cr (bodyC Try.f161)))))))))))))))) 121 4 [(2, 57), (1, 25), (0, 0)] (f1nz_P2 p shift bb sum k) H R =
 (Br (decide ((IntKind.wrap .i64 (k + shift) : Int) < (bb : Int))) (∃ re : OA, ∃ zd : Nat, ∃ ue : Nat,  rdC H p 0 = some (.slice re zd ue) ∧ (0 : Int) ≤ k ∧ k < (zd : Int) ∧ ∃ b1 f1, (re : OA) = some ⟨b1, f1, none⟩ ∧ ∃ x4 : Nat,  rdC H b1 (f1 + (k : Int).toNat * 1) = some (.float .f32 x4) ∧ ∃ mh : OA, ∃ tf : Nat, ∃ di : Nat,  rdC H p 0 = some (.slice mh tf di) ∧ (0 : Int) ≤ IntKind.wrap .i64 (k + shift) ∧ IntKind.wrap .i64 (k + shift) < (tf : Int) ∧ ∃ b2 f2, (mh : OA) = some ⟨b2, f2, none⟩ ∧ ∃ x6 : Nat,  rdC H b2 (f2 + (IntKind.wrap .i64 (k + shift) : Int).toNat * 1) = some (.float .f32 x6) ∧ R .normal (.pointer (some ⟨p, 0, none⟩) :: ud2 (.int .i64 (bb : Int) :: .int .i64 shift :: .float .f32 (fadd .f32 sum (fmul .f32 x4 x6)) :: .int .i64 (IntKind.wrap .i64 (k + 1)) :: ud66 [])) H) (R (.exit 2) (.pointer (some ⟨p, 0, none⟩) :: ud2 (.int .i64 (bb : Int) :: .int .i64 shift :: .float .f32 sum :: ud67 [])) H)) := by kernel_rfl
def f1nz_I2 (p : Nat) (shift : Int) (bb : Nat) (Inv : Nat → Nat → Int → AHeap → Prop) : Nat → List Value → AHeap → Prop := fun μ tm H => ∃ (sum : Nat), ∃ (k : Int), tm = (f1nz_P2 p shift bb sum k) ∧ Inv μ sum k H
theorem f1nz_L2 (p : Nat) (shift : Int) (bb : Nat) {Q : Post} (Inv : Nat → Nat → Int → AHeap → Prop) (ν : Nat) (sum : Nat) (k : Int)  (H : AHeap) (h0 : Inv ν sum k H)
  (hs : ∀ (μ : Nat) (sum : Nat) (k : Int)  (H : AHeap), Inv μ sum k H → exL Try.prog E_f1nz (cl (cl (cr (cl (cr (cl (cl (cr (cl (cl (cr (cl (cr (cr (cr (bodyC Try.f161)))))))))))))))) 121 4 [(2, 57), (1, 25), (0, 0)] (f1nz_P2 p shift bb sum k) H (loopQ (f1nz_I2 p shift bb Inv) μ Q)) : loopK (exL Try.prog E_f1nz (cl (cl (cr (cl (cr (cl (cl (cr (cl (cl (cr (cl (cr (cr (cr (bodyC Try.f161)))))))))))))))) 121 4 [(2, 57), (1, 25), (0, 0)]) (f1nz_P2 p shift bb sum k) H Q :=
 ⟨f1nz_I2 p shift bb Inv, ν, ⟨sum, k, rfl, h0⟩, fun μ tm H h => by obtain ⟨sum, k, rfl, hI⟩ := h; exact hs μ sum k  H hI⟩
theorem f1nz_n2 {p : Nat} {shift : Int} {bb : Nat} {Q : Post} {Inv : Nat → Nat → Int → AHeap → Prop} {μ : Nat} (μ' : Nat) {sum : Nat} {k : Int}  {H : AHeap} (hm : μ' < μ) (hI : Inv μ' sum k H) : loopQ (f1nz_I2 p shift bb Inv) μ Q .normal (f1nz_P2 p shift bb sum k) H := ⟨μ', hm, sum, k, rfl, hI⟩
theorem f1nz_x2_2 (p : Nat) (shift : Int) (bb : Nat) (sum : Nat) (H : AHeap)  (R : Post) {I : Nat → List Value → AHeap → Prop} {μ : Nat} : loopQ I μ (blockQ 2 (seqQ (exL Try.prog E_f1nz (cr (cr (cl (cl (cr (cl (cl (cr (cl (cr (cr (cr (bodyC Try.f161))))))))))))) 25 4 [(1, 25), (0, 0)]) (blockQ 1 (seqQ (exL Try.prog E_f1nz (cr (cr (cl (cl (cr (cl (cr (cr (cr (bodyC Try.f161)))))))))) 25 4 [(0, 0)]) (R))))) (.exit 2) (.pointer (some ⟨p, 0, none⟩) :: ud2 (.int .i64 (bb : Int) :: .int .i64 shift :: .float .f32 sum :: ud67 [])) H =
 (Br ((shift : Int) == 0) (Br (fle .f32 (fsub .f32 sum 1065353216) 981668463) (Br (!(fle .f32 3129152111 (fsub .f32 sum 1065353216))) (R .ret (ud2 (.bool false :: ud70 [])) H) (R .normal (.pointer (some ⟨p, 0, none⟩) :: ud2 (.int .i64 (bb : Int) :: .int .i64 (IntKind.wrap .i64 (shift + 2)) :: ud68 [])) H)) (R .ret (ud2 (.bool false :: ud70 [])) H)) (Br (fle .f32 sum 981668463) (Br (!(fle .f32 3129152111 sum)) (R .ret (ud2 (.bool false :: ud70 [])) H) (R .normal (.pointer (some ⟨p, 0, none⟩) :: ud2 (.int .i64 (bb : Int) :: .int .i64 (IntKind.wrap .i64 (shift + 2)) :: ud68 [])) H)) (R .ret (ud2 (.bool false :: ud70 [])) H))) := by kernel_rfl
theorem E_f1nz_ok : ∀ g, FnOk Try.prog g (E_f1nz g) := FnOk.envOf (by
 intro x hx
 simp only [List.mem_cons, List.not_mem_nil, or_false] at hx
 subst hx; exact f10z_ok)
theorem ω25 {P : Prop} (h : P := by first | omega | decide | (simp; done) | (simp; omega)) : P := h
theorem ω22 {P : Prop} (h : P := by rw [show μ2 - 1 + 1 = μ2 from by first | omega]; exact e) : P := h
theorem f1nz_main (p : Nat) (H : AHeap) (K : Value → AHeap → Prop) (h : T_f1nz p H fun (r1 : Bool) (H' : AHeap) => K (.bool r1) H') : bodyL Try.prog E_f1nz Try.f161 [.pointer (some ⟨p, 0, none⟩)] H K := by
 rw [f1nz_vc]
 obtain ⟨zb, ic, ec, ma, i_p, i_pp_Low, bd_27, hk⟩ := h
 obtain rfl := i_pp_Low.eqn
 have e : (p_f1nz ma) = _ := rfl
 have e := e.trans (p_f1nz_eq ma)
 have g0 := Grow.refl H
 refine ⟨zb, ma.length, ec, (rdN_at (rdN_grow g0 i_p) 0 (Nat.le_of_ble_eq_true rfl)).trans rfl, ?_⟩
 refine Br.intro (fun c_1 => ?_) (fun c_1 => ?_)
 ·have e := e.trans (cond_t c_1)
  have c_1' := of_decide_eq_true c_1
  rw [e] at hk
  exact hk
 ·have e := e.trans (cond_f c_1)
  have c_1' := of_decide_eq_false c_1
  refine Br.intro (fun c_2 => ?_) (fun c_2 => ?_)
  ·have e := e.trans (cond_t c_2)
   have c_2' := of_decide_eq_true c_2
   rw [e] at hk
   exact hk
  ·have e := e.trans (cond_f c_2)
   have c_2' := of_decide_eq_false c_2
   refine ⟨ω25, ?_⟩
   have z_3 := tmod_rng (ma.length : Int) 2
   have z4 := tmod_nn (ma.length : Int) 2
   refine Br.intro (fun c_5 => ?_) (fun c_5 => ?_)
   ·have e := e.trans (cond_t c_5)
    have c_5' := ine_t c_5
    rw [e] at hk
    exact hk
   ·have e := e.trans (cond_f c_5)
    have c_5' := ine_f c_5
    refine ⟨zb, ma.length, ec, (rdN_at (rdN_grow g0 i_p) 0 (Nat.le_of_ble_eq_true rfl)).trans rfl, ?_⟩
    refine T_f10z_i ⟨_, (i_pp_Low.grow g0), ω0, ?_⟩
    refine Br.intro (fun c_6 => ?_) (fun c_6 => ?_)
    ·have e := e.trans (cond_t c_6)
     have c_6n := nf_of_t c_6
     rw [e] at hk
     exact hk
    ·have e := e.trans (cond_f c_6)
     have c_6n := nt_of_f c_6
     refine f1nz_L1 _ _ (fun (μ : Nat) (shift : Int) (H_1 : AHeap) => ∃ (t2 : Bool), H = H_1 ∧ (0 : Int) ≤ shift ∧ 0 ≤ shift ∧ shift ≤ (ma.length : Int) + 2 ∧ (ma.length : Int) - shift ≤ (μ : Int) ∧ p_f1nz ma = p_f1nz_l1 ma (μ + 1) t2 shift) (Int.toNat ((ma.length : Int) - (0 : Int))) _ H ?_ ?_
     ·exact ⟨_, rfl, ω7, ω7, ω7, ω2, e⟩
     ·intro μ shift  H_1 hI
      obtain ⟨t2, rfl, v7, v8, v9, hμ, e⟩ := hI
      rw [f1nz_r1]
      have e := e.trans (p_f1nz_l1_s ma μ t2 shift)
      have l10 := g0.1
      refine Br.intro (fun c11 => ?_) (fun c11 => ?_)
      ·have e := e.trans (cond_t c11)
       have c_11' := of_decide_eq_true c11
       refine f1nz_L2 _ _ _ (fun (μ2 : Nat) (sum : Nat) (k : Int) (H_2 : AHeap) => H = H_2 ∧ 0 ≤ k ∧ k ≤ (ma.length : Int) ∧ (ma.length : Int) - k ≤ (μ2 : Int) ∧ p_f1nz ma = p_f1nz_l2 ma t2 shift (fun (sum : Nat) (k : Int) => (bif (shift : Int) == 0 then (bif fle .f32 (fsub .f32 sum 1065353216) 981668463 then (bif !(fle .f32 3129152111 (fsub .f32 sum 1065353216)) then false else (p_f1nz_l1 ma μ t2 (shift + 2))) else false) else (bif fle .f32 sum 981668463 then (bif !(fle .f32 3129152111 sum) then false else (p_f1nz_l1 ma μ t2 (shift + 2))) else false))) (μ2 + 1) sum k) (Int.toNat ((ma.length : Int) - (0 : Int))) _ _ H ?_ ?_
       ·exact ⟨rfl, ω7, ω7, ω2, e⟩
       ·intro μ2 sum k  H_2 hI
        obtain ⟨rfl, v12, v13, hμ, e⟩ := hI
        rw [f1nz_r2]
        have e := e.trans (p_f1nz_l2_s ma t2 shift (fun (sum : Nat) (k : Int) => (bif (shift : Int) == 0 then (bif fle .f32 (fsub .f32 sum 1065353216) 981668463 then (bif !(fle .f32 3129152111 (fsub .f32 sum 1065353216)) then false else (p_f1nz_l1 ma μ t2 (shift + 2))) else false) else (bif fle .f32 sum 981668463 then (bif !(fle .f32 3129152111 sum) then false else (p_f1nz_l1 ma μ t2 (shift + 2))) else false))) μ2 sum k)
        have l14 := g0.1
        rw [show IntKind.wrap .i64 (k + shift) = (k + shift) from wrap64 ω2 ω2]
        refine Br.intro (fun c15 => ?_) (fun c15 => ?_)
        ·have e := e.trans (cond_t c15)
         have c_15' := of_decide_eq_true c15
         refine ⟨zb, ma.length, ec, (rdN_at (rdN_grow g0 i_p) 0 (Nat.le_of_ble_eq_true rfl)).trans rfl, ?_⟩
         obtain ⟨b_16, f17, q18⟩ := ((i_pp_Low.grow g0)).pos ω0
         refine ⟨by omega, by omega, b_16, f17, q18, ?_⟩
         refine ⟨((ma).getD (k : Int).toNat 0), (i_pp_Low).rd g0 q18 ω2 _, ?_⟩
         refine ⟨zb, ma.length, ec, (rdN_at (rdN_grow g0 i_p) 0 (Nat.le_of_ble_eq_true rfl)).trans rfl, ?_⟩
         obtain ⟨b_19, f20, q21⟩ := ((i_pp_Low.grow g0)).pos ω0
         refine ⟨by omega, by omega, b_19, f20, q21, ?_⟩
         refine ⟨((ma).getD ((k + shift) : Int).toNat 0), (i_pp_Low).rd g0 q21 ω2 _, ?_⟩
         rw [show IntKind.wrap .i64 (k + 1) = (k + 1) from wrap64 ω2 ω2]
         refine f1nz_n2 (μ2 - 1) ω17 ⟨rfl, ω1, ω1, ω17, ω22⟩
        ·have e := e.trans (cond_f c15)
         have c_15' := of_decide_eq_false c15
         rw [f1nz_x2_2]
         refine Br.intro (fun c22 => ?_) (fun c22 => ?_)
         ·have e := e.trans (cond_t c22)
          have c_22' := ieq_t c22
          refine Br.intro (fun c23 => ?_) (fun c23 => ?_)
          ·have e := e.trans (cond_t c23)
           refine Br.intro (fun c24 => ?_) (fun c24 => ?_)
           ·have e := e.trans (cond_t c24)
            have c_24n := nf_of_t c24
            rw [f1nz_x1_ret]
            rw [e] at hk
            exact hk
           ·have e := e.trans (cond_f c24)
            have c_24n := nt_of_f c24
            rw [show IntKind.wrap .i64 (shift + 2) = (shift + 2) from wrap64 ω2 ω2]
            refine f1nz_n1 (μ - 1) ω17 ⟨_, rfl, ω1, ω1, ω1, ω17, ω12⟩
          ·have e := e.trans (cond_f c23)
           rw [f1nz_x1_ret]
           rw [e] at hk
           exact hk
         ·have e := e.trans (cond_f c22)
          have c_22' := ieq_f c22
          refine Br.intro (fun c_25 => ?_) (fun c_25 => ?_)
          ·have e := e.trans (cond_t c_25)
           refine Br.intro (fun c26 => ?_) (fun c26 => ?_)
           ·have e := e.trans (cond_t c26)
            have c_26n := nf_of_t c26
            rw [f1nz_x1_ret]
            rw [e] at hk
            exact hk
           ·have e := e.trans (cond_f c26)
            have c_26n := nt_of_f c26
            rw [show IntKind.wrap .i64 (shift + 2) = (shift + 2) from wrap64 ω2 ω2]
            refine f1nz_n1 (μ - 1) ω17 ⟨_, rfl, ω1, ω1, ω1, ω17, ω12⟩
          ·have e := e.trans (cond_f c_25)
           rw [f1nz_x1_ret]
           rw [e] at hk
           exact hk
      ·have e := e.trans (cond_f c11)
       have c_11' := of_decide_eq_false c11
       rw [f1nz_x1_0]
       rw [e] at hk
       exact hk
theorem f1nz_ok : FnOk Try.prog 161 S_f1nz := by
 refine FnOk.body mix_ok E_f1nz_ok Try.func161 rfl ω15 ω15 ?_ ?_ ?_ ?_ ?_
 ·intro args H K K' h hk
  simp only [S_f1nz] at *
  unfold F_f1nz at *
  split at hk
  ·obtain ⟨zb, ic, ec, ma, i_p, i_pp_Low, bd_27, k⟩ := hk
   exact ⟨zb, ic, ec, ma, i_p, i_pp_Low, bd_27, h _ _ k⟩
  ·exact hk.elim
 ·intro _ args H K hk
  simp only [S_f1nz] at *
  unfold F_f1nz at *
  split at hk
  ·obtain ⟨zb, ic, ec, ma, i_p, i_pp_Low, bd_27, k⟩ := hk
   exact ⟨_, k, fun K' k' => ⟨zb, ic, ec, ma, i_p, i_pp_Low, bd_27, k'⟩⟩
  ·exact hk.elim
 ·intro args H K hk
  simp only [S_f1nz] at *
  unfold F_f1nz at *
  split at hk
  ·obtain ⟨zb, ic, ec, ma, i_p, i_pp_Low, bd_27, k⟩ := hk
   exact ⟨_, _, k⟩
  ·exact hk.elim
 ·intro hq; cases hq
 ·have mm := @f1nz_main
  have ml := fun (args : List Value) (H : AHeap) (K : Value → AHeap → Prop) => bodyL_body (P := Try.prog) (env := E_f1nz ) (fn := Try.f161) (args := args) (H := H) (K := K) E_f1nz_ok 
  revert mm ml
  generalize bodyK Try.prog E_f1nz Try.f161 = Q
  generalize bodyL Try.prog E_f1nz Try.f161 = QL
  intro mm ml args H K hk
  simp only [S_f1nz] at *
  unfold F_f1nz at *
  split at hk
  ·exact ml _ H K (mm _ H K hk)
  ·exact hk.elim
def p_f25z (n : Int) (low : Int) (high : Int) : Bool := (bif decide ((low : Int) ≤ n) then decide ((n : Int) ≤ high) else false)
def T_f25z (n : Int) (low : Int) (high : Int) (H : AHeap) (K : Bool → AHeap → Prop) : Prop := K (p_f25z n low high) H
theorem f25z_t {n a b : Int} (h : p_f25z n a b = true) : a ≤ n ∧ n ≤ b := by
 unfold p_f25z at h
 by_cases h1 : a ≤ n
 ·rw [decide_eq_true h1, cond_true] at h; exact ⟨h1, of_decide_eq_true h⟩
 ·rw [decide_eq_false h1] at h; cases h
theorem T_f25z_i {n : Int} {low : Int} {high : Int} {H : AHeap} {K : Bool → AHeap → Prop} (h : K (p_f25z n low high) H) : T_f25z n low high H K := h
/-! f25z: function 93 -/
def E_f25z : Env := envOf []
def F_f25z : List Value → AHeap → (Value → AHeap → Prop) → Prop
 | [.int .i64 n, .int .i64 low, .int .i64 high], H, K => T_f25z n low high H fun (r1 : Bool) (H' : AHeap) => K (.bool r1) H'
 | _, _, _ => False
def S_f25z : FSpec := { F := F_f25z, quiet := true, tame := false }
theorem f25z_vc (n : Int) (low : Int) (high : Int) (H : AHeap) (K : Value → AHeap → Prop) : bodyL Try.prog E_f25z Try.f93 [.int .i64 n, .int .i64 low, .int .i64 high] H K =
 (Br (decide ((low : Int) ≤ n)) (K (.bool (decide ((n : Int) ≤ high))) H) (K (.bool false) H)) := by kernel_rfl
theorem E_f25z_ok : ∀ g, FnOk Try.prog g (E_f25z g) := FnOk.envOf (by
 intro x hx; cases hx)
theorem f25z_main (n : Int) (low : Int) (high : Int) (H : AHeap) (K : Value → AHeap → Prop) (h : T_f25z n low high H fun (r1 : Bool) (H' : AHeap) => K (.bool r1) H') : bodyL Try.prog E_f25z Try.f93 [.int .i64 n, .int .i64 low, .int .i64 high] H K := by
 rw [f25z_vc]
 unfold T_f25z p_f25z at h
 repeat' (first | exact h | (exfalso; simp_all; done) | (refine ⟨by decide, ?_⟩) | (refine Br.intro (fun hb => ?_) (fun hb => ?_) <;> (try simp only [hb, cond_true, cond_false, Bool.not_true, Bool.not_false] at h)))
theorem f25z_ok : FnOk Try.prog 93 S_f25z := by
 refine FnOk.body mix_ok E_f25z_ok Try.func93 rfl ω15 ω15 ?_ ?_ ?_ ?_ ?_
 ·intro args H K K' h hk
  simp only [S_f25z] at *
  unfold F_f25z at *
  split at hk
  ·have k := hk
   exact h _ _ k
  ·exact hk.elim
 ·intro _ args H K hk
  simp only [S_f25z] at *
  unfold F_f25z at *
  split at hk
  ·have k := hk
   exact ⟨_, k, fun K' k' => k'⟩
  ·exact hk.elim
 ·intro args H K hk
  simp only [S_f25z] at *
  unfold F_f25z at *
  split at hk
  ·have k := hk
   exact ⟨_, _, k⟩
  ·exact hk.elim
 ·intro hq; cases hq
 ·have mm := @f25z_main
  have ml := fun (args : List Value) (H : AHeap) (K : Value → AHeap → Prop) => bodyL_body (P := Try.prog) (env := E_f25z ) (fn := Try.f93) (args := args) (H := H) (K := K) E_f25z_ok 
  revert mm ml
  generalize bodyK Try.prog E_f25z Try.f93 = Q
  generalize bodyL Try.prog E_f25z Try.f93 = QL
  intro mm ml args H K hk
  simp only [S_f25z] at *
  unfold F_f25z at *
  split at hk
  ·exact ml _ H K (mm _ _ _ H K hk)
  ·exact hk.elim

def p_f1pz_l2 (aa : LN) (zc : LN) (lb : LN) (j : Int) (k2_2 : Nat → Int → LN → LN) : Nat → Nat → Int → LN → LN
 | 0, _, _, _ => []
 | μ2 + 1, sum, t21, y2_1 => (bif decide ((t21 : Int) < (zc.length : Int)) then (p_f1pz_l2 aa zc lb j k2_2 μ2 (fadd .f32 sum (fmul .f32 (((zc).getD (t21 : Int).toNat 0)) (((aa).getD (Int.tmod (((2 * j) + t21)) (aa.length : Int) : Int).toNat 0)))) (t21 + 1) y2_1) else (k2_2 sum t21 y2_1))
def p_f1pz_l2_s := fun aa zc lb j k2_2 μ2 sum t21 y2_1 => @p_f1pz_l2.eq_2 aa zc lb j k2_2 sum t21 y2_1 μ2
def p_f1pz_l1 (aa : LN) (zc : LN) : Nat → LN → Int → LN
 | 0, _, _ => []
 | μ + 1, lb, j => (bif decide (((2 * j) : Int) < (aa.length : Int)) then (p_f1pz_l2 aa zc lb j (fun (sum : Nat) (t21 : Int) (y2_1 : LN) => (p_f1pz_l1 aa zc μ (y2_1 ++ [sum]) (j + 1))) (Int.toNat ((zc.length : Int) - (0 : Int)) + 1) 0 (0 : Int) lb) else lb)
def p_f1pz_l1_s := fun aa zc μ lb j => @p_f1pz_l1.eq_2 aa zc lb j μ
def p_f1pz (aa : LN) (zc : LN) : LN := (p_f1pz_l1 aa zc (Int.toNat ((aa.length : Int) - (0 : Int)) + 1) ([] : LN) (0 : Int))
def p_f1pz_eq := @p_f1pz.eq_1
def T_f1pz (ea : OA) (da : Nat) (ga : Nat) (xc : OA) (uc : Nat) (yc : Nat) (H : AHeap) (K : OA → Nat → Nat → AHeap → Prop) : Prop := ∃ (aa : LN), ∃ (zc : LN), IsL fF H ea da aa ∧ IsL fF H xc uc zc ∧ aa.length < 1073741824 ∧ zc.length < 1073741824 ∧ aa.length ≤ 1000 ∧ zc.length ≤ 1000 ∧ ((∀ (ib : OA) (kb jb : Nat), ∀ H' : AHeap, Grow H H' → OwnS fF H' H.length ib kb jb (p_f1pz aa zc) → K ib kb jb H'))
theorem T_f1pz_i {ea : OA} {da : Nat} {ga : Nat} {xc : OA} {uc : Nat} {yc : Nat} {H : AHeap} {K : OA → Nat → Nat → AHeap → Prop} (h : ∃ (aa : LN), ∃ (zc : LN), IsL fF H ea da aa ∧ IsL fF H xc uc zc ∧ aa.length < 1073741824 ∧ zc.length < 1073741824 ∧ aa.length ≤ 1000 ∧ zc.length ≤ 1000 ∧ ((∀ (ib : OA) (kb jb : Nat), ∀ H' : AHeap, Grow H H' → OwnS fF H' H.length ib kb jb (p_f1pz aa zc) → K ib kb jb H'))) : T_f1pz ea da ga xc uc yc H K := h
theorem f1pz_l2_P (l t o : LN) (j : Int) (P : LN → Prop) (h0 : P []) (K : Nat → Int → LN → LN) : ∀ (μ s : Nat) (i : Int) (y : LN), (∀ s i, P (K s i y)) → P (p_f1pz_l2 l t o j K μ s i y) := by
 intro μ
 induction μ with
 | zero => intro s i y hK; exact h0
 | succ μ ih =>
  intro s i y hK
  rw [p_f1pz_l2_s]
  cases decide (i < (t.length : Int))
  ·exact hK _ _
  ·exact ih _ _ _ hK
theorem f1pz_l1_len (l t : LN) : ∀ (μ : Nat) (o : LN) (j : Int), 0 ≤ j → (o.length : Int) ≤ j → (2 * j ≤ (l.length : Int) + 1 ∨ o.length ≤ l.length) → o.length ≤ l.length → (p_f1pz_l1 l t μ o j).length ≤ l.length := by
 intro μ
 induction μ with
 | zero => intro o j h0 h1 h2 h3; exact Nat.zero_le _
 | succ μ ih =>
  intro o j h0 h1 h2 h3
  rw [p_f1pz_l1_s]
  by_cases h : (2 * j) < (l.length : Int)
  ·rw [decide_eq_true h, cond_true]
   refine f1pz_l2_P l t o j (fun r => r.length ≤ l.length) (Nat.zero_le _) _ _ _ _ _ (fun s i => ?_)
   have hl : (o ++ [s]).length = o.length + 1 := by simp
   exact ih _ _ ω2 ω2 ω2 ω2
  ·rw [decide_eq_false h, cond_false]; exact h3
theorem ω32 {P : Prop} (h : P := by decide) : P := h
theorem f1pz_len (l t : LN) : (p_f1pz l t).length ≤ l.length := by
 rw [p_f1pz_eq]
 exact f1pz_l1_len l t _ _ _ ω32 (by simp) (by simp) (by simp)
/-! f1pz: function 194 -/
def E_f1pz : Env := envOf []
def F_f1pz : List Value → AHeap → (Value → AHeap → Prop) → Prop
 | [.slice ea da ga, .slice xc uc yc], H, K => T_f1pz ea da ga xc uc yc H fun (ib : OA) (kb : Nat) (jb : Nat) (H' : AHeap) => K (.slice ib kb jb) H'
 | _, _, _ => False
def S_f1pz : FSpec := { F := F_f1pz, quiet := false, tame := true }
theorem f1pz_vc (ea : OA) (da : Nat) (ga : Nat) (xc : OA) (uc : Nat) (yc : Nat) (H : AHeap) (K : Value → AHeap → Prop) : bodyL Try.prog E_f1pz Try.f194 [.slice ea da ga, .slice xc uc yc] H K =
 (Al [] H fun b1 H1 => loopK (exL Try.prog E_f1pz (cl (cl (cr (cl (cr (cr (cr (bodyC Try.f194)))))))) 227 16 [(0, 64)]) (.slice ea da ga :: .slice xc uc yc :: ud3 (.int .i64 (da : Int) :: .slice (some ⟨b1, 0, none⟩) 0 1 :: .int .i64 0 :: ud38 [])) H1 (blockQ 0 (seqQ (exL Try.prog E_f1pz (cr (cr (cr (cr (bodyC Try.f194))))) 16 16 []) (retK Try.prog Try.f194 K)))) := by kernel_rfl
abbrev f1pz_P1 (ea : OA) (ga : Nat) (da : Nat) (xc : OA) (yc : Nat) (uc : Nat) (oa : OA) (na : Nat) (pa : Nat) (j : Int)  : List Value := (.slice ea da ga :: .slice xc uc yc :: ud3 (.int .i64 (da : Int) :: .slice oa na pa :: .int .i64 j :: ud38 []))
theorem f1pz_r1 (ea : OA) (ga : Nat) (da : Nat) (xc : OA) (yc : Nat) (uc : Nat) (oa : OA) (na : Nat) (pa : Nat) (j : Int)  (H : AHeap) (R : Post) : exL Try.prog E_f1pz (cl (cl (cr (cl (cr (cr (cr (bodyC Try.f194)))))))) 227 16 [(0, 64)] (f1pz_P1 ea ga da xc yc uc oa na pa j) H R =
 (Br (decide ((IntKind.wrap .i64 (2 * j) : Int) < (da : Int))) (loopK (exL Try.prog E_f1pz (cl (cl (cr (cl (cr (cl (cl (cr (cl (cl (cr (cl (cr (cr (cr (bodyC Try.f194)))))))))))))))) 3146211 16 [(2, 483), (1, 227), (0, 64)]) (.slice ea da ga :: .slice xc uc yc :: ud3 (.int .i64 (da : Int) :: .slice oa na pa :: .int .i64 j :: .float .f32 0 :: ud11 (.int .i64 (uc : Int) :: .int .i64 0 :: ud24 []))) H (blockQ 2 (seqQ (exL Try.prog E_f1pz (cr (cr (cl (cl (cr (cl (cl (cr (cl (cr (cr (cr (bodyC Try.f194))))))))))))) 227 16 [(1, 227), (0, 64)]) (blockQ 1 (seqQ (exL Try.prog E_f1pz (cr (cr (cl (cl (cr (cl (cr (cr (cr (bodyC Try.f194)))))))))) 227 16 [(0, 64)]) (R)))))) (R (.exit 0) (ud6 (.slice oa na pa :: ud39 [])) H)) := by kernel_rfl
def f1pz_I1 (ea : OA) (ga : Nat) (da : Nat) (xc : OA) (yc : Nat) (uc : Nat) (Inv : Nat → OA → Nat → Nat → Int → AHeap → Prop) : Nat → List Value → AHeap → Prop := fun μ tm H => ∃ (oa : OA), ∃ (na : Nat), ∃ (pa : Nat), ∃ (j : Int), tm = (f1pz_P1 ea ga da xc yc uc oa na pa j) ∧ Inv μ oa na pa j H
theorem f1pz_L1 (ea : OA) (ga : Nat) (da : Nat) (xc : OA) (yc : Nat) (uc : Nat) {Q : Post} (Inv : Nat → OA → Nat → Nat → Int → AHeap → Prop) (ν : Nat) (oa : OA) (na : Nat) (pa : Nat) (j : Int)  (H : AHeap) (h0 : Inv ν oa na pa j H)
  (hs : ∀ (μ : Nat) (oa : OA) (na : Nat) (pa : Nat) (j : Int)  (H : AHeap), Inv μ oa na pa j H → exL Try.prog E_f1pz (cl (cl (cr (cl (cr (cr (cr (bodyC Try.f194)))))))) 227 16 [(0, 64)] (f1pz_P1 ea ga da xc yc uc oa na pa j) H (loopQ (f1pz_I1 ea ga da xc yc uc Inv) μ Q)) : loopK (exL Try.prog E_f1pz (cl (cl (cr (cl (cr (cr (cr (bodyC Try.f194)))))))) 227 16 [(0, 64)]) (f1pz_P1 ea ga da xc yc uc oa na pa j) H Q :=
 ⟨f1pz_I1 ea ga da xc yc uc Inv, ν, ⟨oa, na, pa, j, rfl, h0⟩, fun μ tm H h => by obtain ⟨oa, na, pa, j, rfl, hI⟩ := h; exact hs μ oa na pa j  H hI⟩
theorem f1pz_n1 {ea : OA} {ga : Nat} {da : Nat} {xc : OA} {yc : Nat} {uc : Nat} {Q : Post} {Inv : Nat → OA → Nat → Nat → Int → AHeap → Prop} {μ : Nat} (μ' : Nat) {oa : OA} {na : Nat} {pa : Nat} {j : Int}  {H : AHeap} (hm : μ' < μ) (hI : Inv μ' oa na pa j H) : loopQ (f1pz_I1 ea ga da xc yc uc Inv) μ Q .normal (f1pz_P1 ea ga da xc yc uc oa na pa j) H := ⟨μ', hm, oa, na, pa, j, rfl, hI⟩
theorem f1pz_x1_0 (oa : OA) (na : Nat) (pa : Nat) (H : AHeap) (K : Value → AHeap → Prop)  {I : Nat → List Value → AHeap → Prop} {μ : Nat} : loopQ I μ (blockQ 0 (seqQ (exL Try.prog E_f1pz (cr (cr (cr (cr (bodyC Try.f194))))) 16 16 []) (retK Try.prog Try.f194 K))) (.exit 0) (ud6 (.slice oa na pa :: ud39 [])) H =
 (K (.slice oa na pa) H) := by kernel_rfl
abbrev f1pz_P2 (j : Int) (ea : OA) (ga : Nat) (da : Nat) (xc : OA) (yc : Nat) (uc : Nat) (oa : OA) (pa : Nat) (na : Nat) (sum : Nat) (t21 : Int)  : List Value := (.slice ea da ga :: .slice xc uc yc :: ud3 (.int .i64 (da : Int) :: .slice oa na pa :: .int .i64 j :: .float .f32 sum :: ud11 (.int .i64 (uc : Int) :: .int .i64 t21 :: ud24 [])))
theorem f1pz_r2 (j : Int) (ea : OA) (ga : Nat) (da : Nat) (xc : OA) (yc : Nat) (uc : Nat) (oa : OA) (pa : Nat) (na : Nat) (sum : Nat) (t21 : Int)  (H : AHeap) (R : Post) : exL Try.prog E_f1pz (cl (cl (cr (cl (cr (cl (cl (cr (cl (cl (cr (cl (cr (cr (cr (bodyC Try.f194)))))))))))))))) 3146211 16 [(2, 483), (1, 227), (0, 64)] (f1pz_P2 j ea ga da xc yc uc oa pa na sum t21) H R =
 (Br (decide ((t21 : Int) < (uc : Int))) ((0 : Int) ≤ t21 ∧ t21 < (uc : Int) ∧ ∃ b2 f1, (xc : OA) = some ⟨b2, f1, none⟩ ∧ ∃ x1 : Nat,  rdC H b2 (f1 + (t21 : Int).toNat * 1) = some (.float .f32 x1) ∧ (da : Int) ≠ (0 : Int) ∧ (0 : Int) ≤ Int.tmod (IntKind.wrap .i64 ((IntKind.wrap .i64 (2 * j)) + t21)) (da : Int) ∧ Int.tmod (IntKind.wrap .i64 ((IntKind.wrap .i64 (2 * j)) + t21)) (da : Int) < (da : Int) ∧ ∃ b3 f2, (ea : OA) = some ⟨b3, f2, none⟩ ∧ ∃ x2 : Nat,  rdC H b3 (f2 + (Int.tmod (IntKind.wrap .i64 ((IntKind.wrap .i64 (2 * j)) + t21)) (da : Int) : Int).toNat * 1) = some (.float .f32 x2) ∧ R .normal (.slice ea da ga :: .slice xc uc yc :: ud3 (.int .i64 (da : Int) :: .slice oa na pa :: .int .i64 j :: .float .f32 (fadd .f32 sum (fmul .f32 x1 x2)) :: ud11 (.int .i64 (uc : Int) :: .int .i64 (IntKind.wrap .i64 (t21 + 1)) :: ud24 []))) H) (R (.exit 2) (.slice ea da ga :: .slice xc uc yc :: ud3 (.int .i64 (da : Int) :: .slice oa na pa :: .int .i64 j :: .float .f32 sum :: ud37 [])) H)) := by kernel_rfl
def f1pz_I2 (j : Int) (ea : OA) (ga : Nat) (da : Nat) (xc : OA) (yc : Nat) (uc : Nat) (oa : OA) (pa : Nat) (na : Nat) (Inv : Nat → Nat → Int → AHeap → Prop) : Nat → List Value → AHeap → Prop := fun μ tm H => ∃ (sum : Nat), ∃ (t21 : Int), tm = (f1pz_P2 j ea ga da xc yc uc oa pa na sum t21) ∧ Inv μ sum t21 H
theorem f1pz_L2 (j : Int) (ea : OA) (ga : Nat) (da : Nat) (xc : OA) (yc : Nat) (uc : Nat) (oa : OA) (pa : Nat) (na : Nat) {Q : Post} (Inv : Nat → Nat → Int → AHeap → Prop) (ν : Nat) (sum : Nat) (t21 : Int)  (H : AHeap) (h0 : Inv ν sum t21 H)
  (hs : ∀ (μ : Nat) (sum : Nat) (t21 : Int)  (H : AHeap), Inv μ sum t21 H → exL Try.prog E_f1pz (cl (cl (cr (cl (cr (cl (cl (cr (cl (cl (cr (cl (cr (cr (cr (bodyC Try.f194)))))))))))))))) 3146211 16 [(2, 483), (1, 227), (0, 64)] (f1pz_P2 j ea ga da xc yc uc oa pa na sum t21) H (loopQ (f1pz_I2 j ea ga da xc yc uc oa pa na Inv) μ Q)) : loopK (exL Try.prog E_f1pz (cl (cl (cr (cl (cr (cl (cl (cr (cl (cl (cr (cl (cr (cr (cr (bodyC Try.f194)))))))))))))))) 3146211 16 [(2, 483), (1, 227), (0, 64)]) (f1pz_P2 j ea ga da xc yc uc oa pa na sum t21) H Q :=
 ⟨f1pz_I2 j ea ga da xc yc uc oa pa na Inv, ν, ⟨sum, t21, rfl, h0⟩, fun μ tm H h => by obtain ⟨sum, t21, rfl, hI⟩ := h; exact hs μ sum t21  H hI⟩
theorem f1pz_n2 {j : Int} {ea : OA} {ga : Nat} {da : Nat} {xc : OA} {yc : Nat} {uc : Nat} {oa : OA} {pa : Nat} {na : Nat} {Q : Post} {Inv : Nat → Nat → Int → AHeap → Prop} {μ : Nat} (μ' : Nat) {sum : Nat} {t21 : Int}  {H : AHeap} (hm : μ' < μ) (hI : Inv μ' sum t21 H) : loopQ (f1pz_I2 j ea ga da xc yc uc oa pa na Inv) μ Q .normal (f1pz_P2 j ea ga da xc yc uc oa pa na sum t21) H := ⟨μ', hm, sum, t21, rfl, hI⟩
theorem f1pz_x2_2 (j : Int) (ea : OA) (ga : Nat) (da : Nat) (xc : OA) (yc : Nat) (uc : Nat) (oa : OA) (pa : Nat) (na : Nat) (sum : Nat) (H : AHeap)  (R : Post) {I : Nat → List Value → AHeap → Prop} {μ : Nat} : loopQ I μ (blockQ 2 (seqQ (exL Try.prog E_f1pz (cr (cr (cl (cl (cr (cl (cl (cr (cl (cr (cr (cr (bodyC Try.f194))))))))))))) 227 16 [(1, 227), (0, 64)]) (blockQ 1 (seqQ (exL Try.prog E_f1pz (cr (cr (cl (cl (cr (cl (cr (cr (cr (bodyC Try.f194)))))))))) 227 16 [(0, 64)]) (R))))) (.exit 2) (.slice ea da ga :: .slice xc uc yc :: ud3 (.int .i64 (da : Int) :: .slice oa na pa :: .int .i64 j :: .float .f32 sum :: ud37 [])) H =
 (Al [.float .f32 sum] H fun b4 H2 => ∃ o1 w1 : List Value, ownB H2 oa na pa 1 = some o1 ∧ rdS H2 (some ⟨b4, 0, none⟩) (1 * 1) = some w1 ∧ ((oa : OA) = none → 0 < (1 : Nat)) ∧ (na : Nat) + 1 < most ∧ Ap H2 (killB H2 oa ++ [some ⟨o1 ++ w1, true⟩]) fun b5 H3 => R .normal (.slice ea da ga :: .slice xc uc yc :: ud3 (.int .i64 (da : Int) :: .slice (some ⟨b5, 0, none⟩) (na + 1) 1 :: .int .i64 (IntKind.wrap .i64 (j + 1)) :: ud38 [])) H3) := by kernel_rfl
theorem E_f1pz_ok : ∀ g, FnOk Try.prog g (E_f1pz g) := FnOk.envOf (by
 intro x hx; cases hx)
theorem ω10 {P : Prop} (h : P := by first | rfl | omega | (simp only [List.length_set]; done) | (simp only [List.length_set, List.length_replicate]; omega)) : P := h
theorem ω5 {P : Prop} (h : P := by first | (simp only [List.length_map, List.length_cons, List.length_nil, List.length_append]; done) | (simp only [List.length_map, List.length_cons, List.length_nil, List.length_append]; omega) | (simp only [List.length_map, List.length_cons, List.length_nil, List.length_append, List.length_take, List.length_drop]; omega)) : P := h
theorem ω8 {P : Prop} (h : P := by first | omega | (simp only [List.length_append, List.length_cons, List.length_nil]; done) | (simp only [List.length_append, List.length_cons, List.length_nil]; omega) | (simp only [List.length_append, List.length_cons, List.length_nil, List.length_take, List.length_drop]; omega)) : P := h
theorem f1pz_main (ea : OA) (da : Nat) (ga : Nat) (xc : OA) (uc : Nat) (yc : Nat) (H : AHeap) (K : Value → AHeap → Prop) (h : T_f1pz ea da ga xc uc yc H fun (ib : OA) (kb : Nat) (jb : Nat) (H' : AHeap) => K (.slice ib kb jb) H') : bodyL Try.prog E_f1pz Try.f194 [.slice ea da ga, .slice xc uc yc] H K := by
 rw [f1pz_vc]
 obtain ⟨aa, zc, i_list, i_taps, bd_61, bd_62, pr0, pr1, hk⟩ := h
 obtain rfl := i_list.eqn
 obtain rfl := i_taps.eqn
 have e : (p_f1pz aa zc) = _ := rfl
 have e := e.trans (p_f1pz_eq aa zc)
 have g0 := Grow.refl H
 refine Al.intro (fun b_1 H_1 hb_2 hl_3 g_4 o_5 => ?_)
 have o_5 : Own H_1 b_1 ((([] : LN)).map fF) := o_5
 have l7 := g_4.1
 have g8 := g0.trans g_4
 have l9 := g8.1
 have w60 := o_5.lt
 refine f1pz_L1 _ _ _ _ _ _ (fun (μ : Nat) (oa : OA) (na : Nat) (pa : Nat) (j : Int) (H_2 : AHeap) => ∃ (lb : LN), ∃ (b_10 : Nat), oa = some ⟨b_10, 0, none⟩ ∧ na = lb.length ∧ pa = 1 ∧ Own H_2 b_10 (lb.map fF) ∧ Grow H H_2 ∧ H.length ≤ b_10 ∧ 0 ≤ j ∧ j ≤ (aa.length : Int) + 1 ∧ (lb.length : Int) ≤ j ∧ (aa.length : Int) - j ≤ (μ : Int) ∧ p_f1pz aa zc = p_f1pz_l1 aa zc (μ + 1) lb j) (Int.toNat ((aa.length : Int) - (0 : Int))) _ _ _ _ H_1 ?_ ?_
 ·exact ⟨_, _, rfl, ω10, rfl, o_5, g8, ω2, ω7, ω7, ω7, ω2, e⟩
 ·intro μ oa na pa j  H_2 hI
  obtain ⟨lb, b_10, rfl, rfl, rfl, o11, g12, l13, v14, v15, v16, hμ, e⟩ := hI
  rw [f1pz_r1]
  have e := e.trans (p_f1pz_l1_s aa zc μ lb j)
  have w17 := o11.lt
  have l18 := g12.1
  rw [show IntKind.wrap .i64 (2 * j) = (2 * j) from wrap64 ω2 ω2]
  refine Br.intro (fun c19 => ?_) (fun c19 => ?_)
  ·have e := e.trans (cond_t c19)
   have c_19' := of_decide_eq_true c19
   refine f1pz_L2 _ _ _ _ _ _ _ _ _ _ (fun (μ2 : Nat) (sum : Nat) (t21 : Int) (H_3 : AHeap) => ∃ (y2_1 : LN), Own H_3 b_10 (y2_1.map fF) ∧ y2_1.length = lb.length ∧ Grow H H_3 ∧ (0 : Int) ≤ t21 ∧ t21 ≤ (zc.length : Int) ∧ (zc.length : Int) - t21 ≤ (μ2 : Int) ∧ p_f1pz aa zc = p_f1pz_l2 aa zc lb j (fun (sum : Nat) (t21 : Int) (y2_1 : LN) => (p_f1pz_l1 aa zc μ (y2_1 ++ [sum]) (j + 1))) (μ2 + 1) sum t21 y2_1) (Int.toNat ((zc.length : Int) - (0 : Int))) _ _ H_2 ?_ ?_
   ·exact ⟨_, o11, ω20, g12, ω7, ω7, ω2, e⟩
   ·intro μ2 sum t21  H_3 hI
    obtain ⟨y2_1, o20, y21, g22, v23, v24, hμ, e⟩ := hI
    rw [f1pz_r2]
    have e := e.trans (p_f1pz_l2_s aa zc lb j (fun (sum : Nat) (t21 : Int) (y2_1 : LN) => (p_f1pz_l1 aa zc μ (y2_1 ++ [sum]) (j + 1))) μ2 sum t21 y2_1)
    have w25 := o20.lt
    have l26 := g22.1
    refine Br.intro (fun c27 => ?_) (fun c27 => ?_)
    ·have e := e.trans (cond_t c27)
     have c_27' := of_decide_eq_true c27
     obtain ⟨b28, f29, q30⟩ := ((i_taps.grow g22)).pos ω0
     refine ⟨by omega, by omega, b28, f29, q30, ?_⟩
     refine ⟨((zc).getD (t21 : Int).toNat 0), (i_taps).rd g22 q30 ω2 _, ?_⟩
     rw [show IntKind.wrap .i64 (2 * j) = (2 * j) from wrap64 ω2 ω2]
     rw [show IntKind.wrap .i64 ((2 * j) + t21) = ((2 * j) + t21) from wrap64 ω2 ω2]
     refine ⟨ω25, ?_⟩
     have z31 := tmod_rng (((2 * j) + t21)) (aa.length : Int)
     have z32 := tmod_nn (((2 * j) + t21)) (aa.length : Int)
     obtain ⟨b33, f_34, q35⟩ := ((i_list.grow g22)).pos ω0
     refine ⟨by omega, by omega, b33, f_34, q35, ?_⟩
     refine ⟨((aa).getD (Int.tmod (((2 * j) + t21)) (aa.length : Int) : Int).toNat 0), (i_list).rd g22 q35 ω2 _, ?_⟩
     rw [show IntKind.wrap .i64 (t21 + 1) = (t21 + 1) from wrap64 ω2 ω2]
     refine f1pz_n2 (μ2 - 1) ω17 ⟨_, o20, ω13, g22, ω1, ω1, ω17, ω22⟩
    ·have e := e.trans (cond_f c27)
     have c_27' := of_decide_eq_false c27
     rw [f1pz_x2_2]
     refine Al.intro (fun b36 H_4 hb_37 hl_38 g39 o40 => ?_)
     have o40 : Own H_4 b36 (([sum]).map fF) := o40
     have l42 := g39.1
     have g43 := g22.trans g39
     have l44 := g43.1
     have o45 := o20.grow g39
     have w46 := o45.lt
     have w59 := o40.lt
     refine ⟨_, _, o45.ownB ω5 rfl, (isl_rdS (o40.isL ω10)), (fun h => by cases h), ω24, ?_⟩
     refine Ap.app o45 rfl rfl (fun b51 H_5 q57 hl_47 o48 k49 => ?_)
     have o48 := map_snoc o48
     have l52 := k49.1
     have g53 := g43.keep (b := b_10) ω2 k49
     have l54 := g53.1
     have o55 := o40.keep ω2 k49
     have w56 := o55.lt
     have w58 := o48.lt
     rw [show IntKind.wrap .i64 (j + 1) = (j + 1) from wrap64 ω2 ω2]
     refine f1pz_n1 (μ - 1) ω17 ⟨_, _, rfl, ω8, rfl, o48, g53, ω2, ω1, ω1, ω1, ω17, ω12⟩
  ·have e := e.trans (cond_f c19)
   have c_19' := of_decide_eq_false c19
   rw [f1pz_x1_0]
   rw [e] at hk
   exact hk _ _ _ H_2 g12 (o11.ownS ω10 ω2)
theorem f1pz_ok : FnOk Try.prog 194 S_f1pz := by
 refine FnOk.body mix_ok E_f1pz_ok Try.func194 rfl ω15 ω15 ?_ ?_ ?_ ?_ ?_
 ·intro args H K K' h hk
  simp only [S_f1pz] at *
  unfold F_f1pz at *
  split at hk
  ·obtain ⟨aa, zc, i_list, i_taps, bd_61, bd_62, pr0, pr1, k⟩ := hk
   exact ⟨aa, zc, i_list, i_taps, bd_61, bd_62, pr0, pr1, (fun ib kb jb H' gg ow0 => h _ _ (k ib kb jb H' gg ow0))⟩
  ·exact hk.elim
 ·intro hq; cases hq
 ·intro args H K hk
  simp only [S_f1pz] at *
  unfold F_f1pz at *
  split at hk
  ·obtain ⟨aa, zc, i_list, i_taps, bd_61, bd_62, pr0, pr1, k⟩ := hk
   exact liveS fun a n e H1 g o => ⟨_, _, k a n e H1 g o⟩
  ·exact hk.elim
 ·intro _ args H K hk
  simp only [S_f1pz] at *
  unfold F_f1pz at *
  split at hk
  ·obtain ⟨aa, zc, i_list, i_taps, bd_61, bd_62, pr0, pr1, k⟩ := hk
   exact ⟨aa, zc, i_list, i_taps, bd_61, bd_62, pr0, pr1, (fun ib kb jb H' gg ow0 => ⟨gg, k ib kb jb H' gg ow0⟩)⟩
  ·exact hk.elim
 ·have mm := @f1pz_main
  have ml := fun (args : List Value) (H : AHeap) (K : Value → AHeap → Prop) => bodyL_body (P := Try.prog) (env := E_f1pz ) (fn := Try.f194) (args := args) (H := H) (K := K) E_f1pz_ok 
  revert mm ml
  generalize bodyK Try.prog E_f1pz Try.f194 = Q
  generalize bodyL Try.prog E_f1pz Try.f194 = QL
  intro mm ml args H K hk
  simp only [S_f1pz] at *
  unfold F_f1pz at *
  split at hk
  ·exact ml _ H K (mm _ _ _ _ _ _ H K hk)
  ·exact hk.elim

def p_f1kz_l1 (ma : LN) : Nat → LN → Int → LN
 | 0, _, _ => []
 | μ + 1, lb, k => (bif decide ((k : Int) < (ma.length : Int)) then (bif (Int.tmod k 2 : Int) == 1 then (p_f1kz_l1 ma μ ((lb ++ [(fneg .f32 (((ma).getD (((((ma.length : Int) - 1)) - k) : Int).toNat 0)))])) (k + 1)) else (p_f1kz_l1 ma μ ((lb ++ [(((ma).getD (((((ma.length : Int) - 1)) - k) : Int).toNat 0))])) (k + 1))) else lb)
def p_f1kz_l1_s := fun ma μ lb k => @p_f1kz_l1.eq_2 ma lb k μ
def p_f1kz (ma : LN) : LN := (p_f1kz_l1 ma (Int.toNat ((ma.length : Int) - (0 : Int)) + 1) ([] : LN) (0 : Int))
def p_f1kz_eq := @p_f1kz.eq_1
def T_f1kz (p : Nat) (H : AHeap) (K : OA → Nat → Nat → AHeap → Prop) : Prop := ∃ (zb : OA), ∃ (ic : Nat), ∃ (ec : Nat), ∃ (ma : LN), rdN H p 0 1 = some [.slice zb ic ec] ∧ IsL fF H zb ic ma ∧ ma.length < 1073741824 ∧ ((∀ (ib : OA) (kb jb : Nat), ∀ H' : AHeap, Grow H H' → OwnS fF H' H.length ib kb jb (p_f1kz ma) → K ib kb jb H'))
theorem T_f1kz_i {p : Nat} {H : AHeap} {K : OA → Nat → Nat → AHeap → Prop} (h : ∃ (zb : OA), ∃ (ic : Nat), ∃ (ec : Nat), ∃ (ma : LN), rdN H p 0 1 = some [.slice zb ic ec] ∧ IsL fF H zb ic ma ∧ ma.length < 1073741824 ∧ ((∀ (ib : OA) (kb jb : Nat), ∀ H' : AHeap, Grow H H' → OwnS fF H' H.length ib kb jb (p_f1kz ma) → K ib kb jb H'))) : T_f1kz p H K := h
theorem ω31 {P : Prop} (h : P := by rw [List.length_append, List.length_singleton]; omega) : P := h
theorem f1kz_l1_len (l : LN) : ∀ (μ : Nat) (o : LN) (k : Int), (o.length : Int) = k → k ≤ (l.length : Int) → ((l.length : Int) - k).toNat < μ → (p_f1kz_l1 l μ o k).length = l.length := by
 intro μ
 induction μ with
 | zero => intro o k h1 h2 h3; omega
 | succ μ ih =>
  intro o k h1 h2 h3
  rw [p_f1kz_l1_s]
  by_cases h : k < (l.length : Int)
  ·rw [decide_eq_true h, cond_true]
   refine cnb (P := fun r : LN => r.length = l.length) (fun _ => ?_) (fun _ => ?_)
   ·exact ih _ _ ω31 ω2 ω2
   ·exact ih _ _ ω31 ω2 ω2
  ·rw [decide_eq_false h, cond_false]; omega
theorem f1kz_len (l : LN) : (p_f1kz l).length = l.length := by
 rw [p_f1kz_eq]; exact f1kz_l1_len l _ _ _ (by simp) ω2 ω2
/-! f1kz: function 195 -/
def E_f1kz : Env := envOf []
def F_f1kz : List Value → AHeap → (Value → AHeap → Prop) → Prop
 | [.pointer (some ⟨p, 0, none⟩)], H, K => T_f1kz p H fun (ib : OA) (kb : Nat) (jb : Nat) (H' : AHeap) => K (.slice ib kb jb) H'
 | _, _, _ => False
def S_f1kz : FSpec := { F := F_f1kz, quiet := false, tame := true }
theorem f1kz_vc (p : Nat) (H : AHeap) (K : Value → AHeap → Prop) : bodyL Try.prog E_f1kz Try.f195 [.pointer (some ⟨p, 0, none⟩)] H K =
 (Al [] H fun b1 H1 => ∃ sc : OA, ∃ bb : Nat, ∃ tc : Nat,  rdC H1 p 0 = some (.slice sc bb tc) ∧ loopK (exL Try.prog E_f1kz (cl (cl (cr (cl (cr (cr (cr (bodyC Try.f195)))))))) 57 4 [(0, 8)]) (.pointer (some ⟨p, 0, none⟩) :: ud2 (.slice (some ⟨b1, 0, none⟩) 0 1 :: .int .i64 (bb : Int) :: .int .i64 0 :: ud32 [])) H1 (blockQ 0 (seqQ (exL Try.prog E_f1kz (cr (cr (cr (cr (bodyC Try.f195))))) 4 4 []) (retK Try.prog Try.f195 K)))) := by kernel_rfl
abbrev f1kz_P1 (p : Nat) (bb : Nat) (oa : OA) (na : Nat) (pa : Nat) (k : Int)  : List Value := (.pointer (some ⟨p, 0, none⟩) :: ud2 (.slice oa na pa :: .int .i64 (bb : Int) :: .int .i64 k :: ud32 []))
theorem f1kz_r1 (p : Nat) (bb : Nat) (oa : OA) (na : Nat) (pa : Nat) (k : Int)  (H : AHeap) (R : Post) : exL Try.prog E_f1kz (cl (cl (cr (cl (cr (cr (cr (bodyC Try.f195)))))))) 57 4 [(0, 8)] (f1kz_P1 p bb oa na pa k) H R =
 (Br (decide ((k : Int) < (bb : Int))) (∃ oe : OA, ∃ je : Nat, ∃ te : Nat,  rdC H p 0 = some (.slice oe je te) ∧ (0 : Int) ≤ IntKind.wrap .i64 ((IntKind.wrap .i64 ((bb : Int) - 1)) - k) ∧ IntKind.wrap .i64 ((IntKind.wrap .i64 ((bb : Int) - 1)) - k) < (je : Int) ∧ ∃ b2 f1, (oe : OA) = some ⟨b2, f1, none⟩ ∧ ∃ x3 : Nat,  rdC H b2 (f1 + (IntKind.wrap .i64 ((IntKind.wrap .i64 ((bb : Int) - 1)) - k) : Int).toNat * 1) = some (.float .f32 x3) ∧ 2 ≠ (0 : Int) ∧ Br ((Int.tmod k 2 : Int) == 1) (Al [.float .f32 (fneg .f32 x3)] H fun b3 H2 => ∃ o1 w1 : List Value, ownB H2 oa na pa 1 = some o1 ∧ rdS H2 (some ⟨b3, 0, none⟩) (1 * 1) = some w1 ∧ ((oa : OA) = none → 0 < (1 : Nat)) ∧ (na : Nat) + 1 < most ∧ Ap H2 (killB H2 oa ++ [some ⟨o1 ++ w1, true⟩]) fun b4 H3 => R .normal (.pointer (some ⟨p, 0, none⟩) :: ud2 (.slice (some ⟨b4, 0, none⟩) (na + 1) 1 :: .int .i64 (bb : Int) :: .int .i64 (IntKind.wrap .i64 (k + 1)) :: ud32 [])) H3) (Al [.float .f32 x3] H fun b5 H4 => ∃ o2 w2 : List Value, ownB H4 oa na pa 1 = some o2 ∧ rdS H4 (some ⟨b5, 0, none⟩) (1 * 1) = some w2 ∧ ((oa : OA) = none → 0 < (1 : Nat)) ∧ (na : Nat) + 1 < most ∧ Ap H4 (killB H4 oa ++ [some ⟨o2 ++ w2, true⟩]) fun b6 H5 => R .normal (.pointer (some ⟨p, 0, none⟩) :: ud2 (.slice (some ⟨b6, 0, none⟩) (na + 1) 1 :: .int .i64 (bb : Int) :: .int .i64 (IntKind.wrap .i64 (k + 1)) :: ud32 [])) H5)) (R (.exit 0) (ud3 (.slice oa na pa :: ud34 [])) H)) := by kernel_rfl
def f1kz_I1 (p : Nat) (bb : Nat) (Inv : Nat → OA → Nat → Nat → Int → AHeap → Prop) : Nat → List Value → AHeap → Prop := fun μ tm H => ∃ (oa : OA), ∃ (na : Nat), ∃ (pa : Nat), ∃ (k : Int), tm = (f1kz_P1 p bb oa na pa k) ∧ Inv μ oa na pa k H
theorem f1kz_L1 (p : Nat) (bb : Nat) {Q : Post} (Inv : Nat → OA → Nat → Nat → Int → AHeap → Prop) (ν : Nat) (oa : OA) (na : Nat) (pa : Nat) (k : Int)  (H : AHeap) (h0 : Inv ν oa na pa k H)
  (hs : ∀ (μ : Nat) (oa : OA) (na : Nat) (pa : Nat) (k : Int)  (H : AHeap), Inv μ oa na pa k H → exL Try.prog E_f1kz (cl (cl (cr (cl (cr (cr (cr (bodyC Try.f195)))))))) 57 4 [(0, 8)] (f1kz_P1 p bb oa na pa k) H (loopQ (f1kz_I1 p bb Inv) μ Q)) : loopK (exL Try.prog E_f1kz (cl (cl (cr (cl (cr (cr (cr (bodyC Try.f195)))))))) 57 4 [(0, 8)]) (f1kz_P1 p bb oa na pa k) H Q :=
 ⟨f1kz_I1 p bb Inv, ν, ⟨oa, na, pa, k, rfl, h0⟩, fun μ tm H h => by obtain ⟨oa, na, pa, k, rfl, hI⟩ := h; exact hs μ oa na pa k  H hI⟩
theorem f1kz_n1 {p : Nat} {bb : Nat} {Q : Post} {Inv : Nat → OA → Nat → Nat → Int → AHeap → Prop} {μ : Nat} (μ' : Nat) {oa : OA} {na : Nat} {pa : Nat} {k : Int}  {H : AHeap} (hm : μ' < μ) (hI : Inv μ' oa na pa k H) : loopQ (f1kz_I1 p bb Inv) μ Q .normal (f1kz_P1 p bb oa na pa k) H := ⟨μ', hm, oa, na, pa, k, rfl, hI⟩
theorem f1kz_x1_0 (oa : OA) (na : Nat) (pa : Nat) (H : AHeap) (K : Value → AHeap → Prop)  {I : Nat → List Value → AHeap → Prop} {μ : Nat} : loopQ I μ (blockQ 0 (seqQ (exL Try.prog E_f1kz (cr (cr (cr (cr (bodyC Try.f195))))) 4 4 []) (retK Try.prog Try.f195 K))) (.exit 0) (ud3 (.slice oa na pa :: ud34 [])) H =
 (K (.slice oa na pa) H) := by kernel_rfl
theorem E_f1kz_ok : ∀ g, FnOk Try.prog g (E_f1kz g) := FnOk.envOf (by
 intro x hx; cases hx)
theorem f1kz_main (p : Nat) (H : AHeap) (K : Value → AHeap → Prop) (h : T_f1kz p H fun (ib : OA) (kb : Nat) (jb : Nat) (H' : AHeap) => K (.slice ib kb jb) H') : bodyL Try.prog E_f1kz Try.f195 [.pointer (some ⟨p, 0, none⟩)] H K := by
 rw [f1kz_vc]
 obtain ⟨zb, ic, ec, ma, i_p, i_pp_Low, bd_75, hk⟩ := h
 obtain rfl := i_pp_Low.eqn
 have e : (p_f1kz ma) = _ := rfl
 have e := e.trans (p_f1kz_eq ma)
 have g0 := Grow.refl H
 refine Al.intro (fun b_1 H_1 hb_2 hl_3 g_4 o_5 => ?_)
 have o_5 : Own H_1 b_1 ((([] : LN)).map fF) := o_5
 have l7 := g_4.1
 have g8 := g0.trans g_4
 have l9 := g8.1
 have w74 := o_5.lt
 refine ⟨zb, ma.length, ec, (rdN_at (rdN_grow g8 i_p) 0 (Nat.le_of_ble_eq_true rfl)).trans rfl, ?_⟩
 refine f1kz_L1 _ _ (fun (μ : Nat) (oa : OA) (na : Nat) (pa : Nat) (k : Int) (H_2 : AHeap) => ∃ (lb : LN), ∃ (b_10 : Nat), oa = some ⟨b_10, 0, none⟩ ∧ na = lb.length ∧ pa = 1 ∧ Own H_2 b_10 (lb.map fF) ∧ Grow H H_2 ∧ H.length ≤ b_10 ∧ (0 : Int) ≤ k ∧ k ≤ (ma.length : Int) ∧ (lb.length : Int) ≤ k - (0 : Int) + 0 ∧ (ma.length : Int) - k ≤ (μ : Int) ∧ p_f1kz ma = p_f1kz_l1 ma (μ + 1) lb k) (Int.toNat ((ma.length : Int) - (0 : Int))) _ _ _ _ H_1 ?_ ?_
 ·exact ⟨_, _, rfl, ω10, rfl, o_5, g8, ω2, ω7, ω7, ω7, ω2, e⟩
 ·intro μ oa na pa k  H_2 hI
  obtain ⟨lb, b_10, rfl, rfl, rfl, o11, g12, l13, v14, v15, v16, hμ, e⟩ := hI
  rw [f1kz_r1]
  have e := e.trans (p_f1kz_l1_s ma μ lb k)
  have w17 := o11.lt
  have l18 := g12.1
  refine Br.intro (fun c19 => ?_) (fun c19 => ?_)
  ·have e := e.trans (cond_t c19)
   have c_19' := of_decide_eq_true c19
   refine ⟨zb, ma.length, ec, (rdN_at (rdN_grow g12 i_p) 0 (Nat.le_of_ble_eq_true rfl)).trans rfl, ?_⟩
   rw [show IntKind.wrap .i64 ((ma.length : Int) - 1) = ((ma.length : Int) - 1) from wrap64 ω2 ω2]
   rw [show IntKind.wrap .i64 ((((ma.length : Int) - 1)) - k) = ((((ma.length : Int) - 1)) - k) from wrap64 ω2 ω2]
   obtain ⟨b20, f21, q22⟩ := ((i_pp_Low.grow g12)).pos ω0
   refine ⟨by omega, by omega, b20, f21, q22, ?_⟩
   refine ⟨((ma).getD (((((ma.length : Int) - 1)) - k) : Int).toNat 0), (i_pp_Low).rd g12 q22 ω2 _, ?_⟩
   refine ⟨ω25, ?_⟩
   have z23 := tmod_rng k 2
   have z24 := tmod_nn k 2
   refine Br.intro (fun c_25 => ?_) (fun c_25 => ?_)
   ·have e := e.trans (cond_t c_25)
    have c_25' := ieq_t c_25
    refine Al.intro (fun b26 H_3 hb_27 hl_28 g29 o30 => ?_)
    have o30 : Own H_3 b26 (([(fneg .f32 (((ma).getD (((((ma.length : Int) - 1)) - k) : Int).toNat 0)))]).map fF) := o30
    have l_32 := g29.1
    have g33 := g12.trans g29
    have l34 := g33.1
    have o35 := o11.grow g29
    have w36 := o35.lt
    have w49 := o30.lt
    refine ⟨_, _, o35.ownB ω5 rfl, (isl_rdS (o30.isL ω10)), (fun h => by cases h), ω24, ?_⟩
    refine Ap.app o35 rfl rfl (fun b41 H_4 q47 hl_37 o38 k39 => ?_)
    have o38 := map_snoc o38
    have l42 := k39.1
    have g43 := g33.keep (b := b_10) ω2 k39
    have l44 := g43.1
    have o45 := o30.keep ω2 k39
    have w46 := o45.lt
    have w48 := o38.lt
    rw [show IntKind.wrap .i64 (k + 1) = (k + 1) from wrap64 ω2 ω2]
    refine f1kz_n1 (μ - 1) ω17 ⟨_, _, rfl, ω8, rfl, o38, g43, ω2, ω1, ω1, ω1, ω17, ω12⟩
   ·have e := e.trans (cond_f c_25)
    have c_25' := ieq_f c_25
    refine Al.intro (fun b50 H_5 hb_51 hl_52 g53 o54 => ?_)
    have o54 : Own H_5 b50 (([(((ma).getD (((((ma.length : Int) - 1)) - k) : Int).toNat 0))]).map fF) := o54
    have l56 := g53.1
    have g57 := g12.trans g53
    have l58 := g57.1
    have o59 := o11.grow g53
    have w60 := o59.lt
    have w73 := o54.lt
    refine ⟨_, _, o59.ownB ω5 rfl, (isl_rdS (o54.isL ω10)), (fun h => by cases h), ω24, ?_⟩
    refine Ap.app o59 rfl rfl (fun b65 H_6 q71 hl_61 o62 k63 => ?_)
    have o62 := map_snoc o62
    have l66 := k63.1
    have g67 := g57.keep (b := b_10) ω2 k63
    have l68 := g67.1
    have o69 := o54.keep ω2 k63
    have w70 := o69.lt
    have w72 := o62.lt
    rw [show IntKind.wrap .i64 (k + 1) = (k + 1) from wrap64 ω2 ω2]
    refine f1kz_n1 (μ - 1) ω17 ⟨_, _, rfl, ω8, rfl, o62, g67, ω2, ω1, ω1, ω1, ω17, ω12⟩
  ·have e := e.trans (cond_f c19)
   have c_19' := of_decide_eq_false c19
   rw [f1kz_x1_0]
   rw [e] at hk
   exact hk _ _ _ H_2 g12 (o11.ownS ω10 ω2)
theorem f1kz_ok : FnOk Try.prog 195 S_f1kz := by
 refine FnOk.body mix_ok E_f1kz_ok Try.func195 rfl ω15 ω15 ?_ ?_ ?_ ?_ ?_
 ·intro args H K K' h hk
  simp only [S_f1kz] at *
  unfold F_f1kz at *
  split at hk
  ·obtain ⟨zb, ic, ec, ma, i_p, i_pp_Low, bd_75, k⟩ := hk
   exact ⟨zb, ic, ec, ma, i_p, i_pp_Low, bd_75, (fun ib kb jb H' gg ow0 => h _ _ (k ib kb jb H' gg ow0))⟩
  ·exact hk.elim
 ·intro hq; cases hq
 ·intro args H K hk
  simp only [S_f1kz] at *
  unfold F_f1kz at *
  split at hk
  ·obtain ⟨zb, ic, ec, ma, i_p, i_pp_Low, bd_75, k⟩ := hk
   exact liveS fun a n e H1 g o => ⟨_, _, k a n e H1 g o⟩
  ·exact hk.elim
 ·intro _ args H K hk
  simp only [S_f1kz] at *
  unfold F_f1kz at *
  split at hk
  ·obtain ⟨zb, ic, ec, ma, i_p, i_pp_Low, bd_75, k⟩ := hk
   exact ⟨zb, ic, ec, ma, i_p, i_pp_Low, bd_75, (fun ib kb jb H' gg ow0 => ⟨gg, k ib kb jb H' gg ow0⟩)⟩
  ·exact hk.elim
 ·have mm := @f1kz_main
  have ml := fun (args : List Value) (H : AHeap) (K : Value → AHeap → Prop) => bodyL_body (P := Try.prog) (env := E_f1kz ) (fn := Try.f195) (args := args) (H := H) (K := K) E_f1kz_ok 
  revert mm ml
  generalize bodyK Try.prog E_f1kz Try.f195 = Q
  generalize bodyL Try.prog E_f1kz Try.f195 = QL
  intro mm ml args H K hk
  simp only [S_f1kz] at *
  unfold F_f1kz at *
  split at hk
  ·exact ml _ H K (mm _ H K hk)
  ·exact hk.elim

def p_fxz (aa : LN) (ba : LN) : LN × LN × Bool := ((bif !(p_f1mz aa) then ([], [], false) else (bif (Int.tmod (aa.length : Int) 2 : Int) != 0 then ([], [], false) else (bif !(p_f1nz ba) then ([], [], false) else (bif !((p_f10z (p_f1pz aa ba))) then ([], [], false) else (bif !((p_f10z ((p_f1pz aa (p_f1kz ba))))) then ([], [], false) else ((p_f1pz aa ba), (p_f1pz aa (p_f1kz ba)), true)))))))
def p_fxz_eq := @p_fxz.eq_1
def T_fxz (ea : OA) (da : Nat) (ga : Nat) (p_Low_a : OA) (p_Low_n : Nat) (p_Low_e : Nat) (H : AHeap) (K : OA → Nat → Nat → OA → Nat → Nat → Bool → AHeap → Prop) : Prop := ∃ (aa : LN), ∃ (ba : LN), IsL fF H ea da aa ∧ IsL fF H p_Low_a p_Low_n ba ∧ aa.length < 1073741824 ∧ ba.length < 1073741824 ∧ ((∀ (ib : OA) (kb jb : Nat), ∀ (pf : OA) (xf vf : Nat), ∀ H' : AHeap, Grow H H' → OwnS fF H' H.length ib kb jb ((p_fxz aa ba).1) → OwnS fF H' H.length pf xf vf ((p_fxz aa ba).2.1) → SepA ib pf → K ib kb jb pf xf vf ((p_fxz aa ba).2.2) H'))
theorem T_fxz_i {ea : OA} {da : Nat} {ga : Nat} {p_Low_a : OA} {p_Low_n : Nat} {p_Low_e : Nat} {H : AHeap} {K : OA → Nat → Nat → OA → Nat → Nat → Bool → AHeap → Prop} (h : ∃ (aa : LN), ∃ (ba : LN), IsL fF H ea da aa ∧ IsL fF H p_Low_a p_Low_n ba ∧ aa.length < 1073741824 ∧ ba.length < 1073741824 ∧ ((∀ (ib : OA) (kb jb : Nat), ∀ (pf : OA) (xf vf : Nat), ∀ H' : AHeap, Grow H H' → OwnS fF H' H.length ib kb jb ((p_fxz aa ba).1) → OwnS fF H' H.length pf xf vf ((p_fxz aa ba).2.1) → SepA ib pf → K ib kb jb pf xf vf ((p_fxz aa ba).2.2) H'))) : T_fxz ea da ga p_Low_a p_Low_n p_Low_e H K := h
theorem fxz_len (l t : LN) : (p_fxz l t).1.length ≤ l.length ∧ (p_fxz l t).2.1.length ≤ l.length := by
 have z : ∀ r : LN × LN × Bool, r = ([], [], false) → r.1.length ≤ l.length ∧ r.2.1.length ≤ l.length := fun r h => by subst h; exact ⟨Nat.zero_le _, Nat.zero_le _⟩
 rw [p_fxz_eq]
 have P : ∀ r : LN × LN × Bool, r = ([], [], false) ∨ r = (p_f1pz l t, p_f1pz l (p_f1kz t), true) → r.1.length ≤ l.length ∧ r.2.1.length ≤ l.length := by
  rintro r (rfl | rfl)
  ·exact z _ rfl
  ·exact ⟨f1pz_len _ _, f1pz_len _ _⟩
 refine P _ ?_
 cases !(p_f1mz l)
 ·cases ((Int.tmod (l.length : Int) 2 : Int) != 0)
  ·cases !(p_f1nz t)
   ·cases !(p_f10z (p_f1pz l t))
    ·cases !(p_f10z (p_f1pz l (p_f1kz t)))
     ·exact .inr rfl
     ·exact .inl rfl
    ·exact .inl rfl
   ·exact .inl rfl
  ·exact .inl rfl
 ·exact .inl rfl
/-! fxz: function 162 -/
def E_fxz : Env := envOf [(100, S_f1mz), (161, S_f1nz), (194, S_f1pz), (195, S_f1kz), (104, S_f10z)]
def F_fxz : List Value → AHeap → (Value → AHeap → Prop) → Prop
 | [.slice ea da ga, .agg ⟨[.slice p_Low_a p_Low_n p_Low_e]⟩], H, K => T_fxz ea da ga p_Low_a p_Low_n p_Low_e H fun (ib : OA) (kb : Nat) (jb : Nat) (pf : OA) (xf : Nat) (vf : Nat) (r3 : Bool) (H' : AHeap) => K (.tuple #[.slice ib kb jb, .slice pf xf vf, .bool r3]) H'
 | _, _, _ => False
def S_fxz : FSpec := { F := F_fxz, quiet := false, tame := true }
theorem fxz_vc (ea : OA) (da : Nat) (ga : Nat) (p_Low_a : OA) (p_Low_n : Nat) (p_Low_e : Nat) (H : AHeap) (K : Value → AHeap → Prop) : bodyL Try.prog E_fxz Try.f162 [.slice ea da ga, .agg #[.slice p_Low_a p_Low_n p_Low_e]] H K =
 (Al [.slice p_Low_a p_Low_n p_Low_e] H fun b1 H1 => T_f1mz ea da ga H1 fun (r1 : Bool) (H2 : AHeap) => Br (!r1) (K (.tuple #[.slice none 0 0, .slice none 0 0, .bool false]) H2) (2 ≠ (0 : Int) ∧ Br ((Int.tmod (da : Int) 2 : Int) != 0) (K (.tuple #[.slice none 0 0, .slice none 0 0, .bool false]) H2) (T_f1nz b1 H2 fun (r2 : Bool) (H3 : AHeap) => Br (!r2) (K (.tuple #[.slice none 0 0, .slice none 0 0, .bool false]) H3) (∃ sc : OA, ∃ bb : Nat, ∃ tc : Nat,  rdC H3 b1 0 = some (.slice sc bb tc) ∧ T_f1pz ea da ga sc bb tc H3 fun (a1 : OA) (r3 : Nat) (r4 : Nat) (H4 : AHeap) => T_f1kz b1 H4 fun (a2 : OA) (r5 : Nat) (r6 : Nat) (H5 : AHeap) => T_f1pz ea da ga a2 r5 r6 H5 fun (a3 : OA) (r7 : Nat) (r8 : Nat) (H6 : AHeap) => T_f10z a1 r3 r4 H6 fun (r9 : Bool) (H7 : AHeap) => Br (!r9) (K (.tuple #[.slice none 0 0, .slice none 0 0, .bool false]) H7) (T_f10z a3 r7 r8 H7 fun (r10 : Bool) (H8 : AHeap) => Br (!r10) (K (.tuple #[.slice none 0 0, .slice none 0 0, .bool false]) H8) (K (.tuple #[.slice a1 r3 r4, .slice a3 r7 r8, .bool true]) H8)))))) := by kernel_rfl
theorem E_fxz_ok : ∀ g, FnOk Try.prog g (E_fxz g) := FnOk.envOf (by
 intro x hx
 simp only [List.mem_cons, List.not_mem_nil, or_false] at hx
 rcases hx with rfl | rfl | rfl | rfl | rfl
 ·exact f1mz_ok
 ·exact f1nz_ok
 ·exact f1pz_ok
 ·exact f1kz_ok
 ·exact f10z_ok)
theorem ω9 {P : Prop} (h : P := by first | exact OwnS.nil _ _ _ _ | exact OwnT.nil _ _ _ | exact OwnLL.nil _ _ _ _) : P := h
theorem ω4 {P : Prop} (h : P := by first | assumption | omega | (simp; omega)) : P := h
theorem fxz_main (ea : OA) (da : Nat) (ga : Nat) (p_Low_a : OA) (p_Low_n : Nat) (p_Low_e : Nat) (H : AHeap) (K : Value → AHeap → Prop) (h : T_fxz ea da ga p_Low_a p_Low_n p_Low_e H fun (ib : OA) (kb : Nat) (jb : Nat) (pf : OA) (xf : Nat) (vf : Nat) (r3 : Bool) (H' : AHeap) => K (.tuple #[.slice ib kb jb, .slice pf xf vf, .bool r3]) H') : bodyL Try.prog E_fxz Try.f162 [.slice ea da ga, .agg #[.slice p_Low_a p_Low_n p_Low_e]] H K := by
 rw [fxz_vc]
 obtain ⟨aa, ba, i_list, i_p_Low, bd_63, bd_64, hk⟩ := h
 obtain rfl := i_list.eqn
 obtain rfl := i_p_Low.eqn
 have e : (p_fxz aa ba) = _ := rfl
 have e := e.trans (p_fxz_eq aa ba)
 have g0 := Grow.refl H
 refine Al.intro (fun b_1 H_1 hb_2 hl_3 g_4 o_5 => ?_)
 have l7 := g_4.1
 have g8 := g0.trans g_4
 have l9 := g8.1
 have w62 := o_5.lt
 refine T_f1mz_i ⟨_, (i_list.grow g8), ω0, ?_⟩
 refine Br.intro (fun c10 => ?_) (fun c10 => ?_)
 ·have e := e.trans (cond_t c10)
  have c_10n := nf_of_t c10
  rw [e] at hk
  exact hk _ _ _ _ _ _ H_1 g8 ω9 ω9 (fun x y hx hy => by cases hx)
 ·have e := e.trans (cond_f c10)
  have c_10n := nt_of_f c10
  have c_10n' := f1mz_t c_10n
  refine ⟨ω25, ?_⟩
  have z11 := tmod_rng (aa.length : Int) 2
  have z12 := tmod_nn (aa.length : Int) 2
  refine Br.intro (fun c13 => ?_) (fun c13 => ?_)
  ·have e := e.trans (cond_t c13)
   have c_13' := ine_t c13
   rw [e] at hk
   exact hk _ _ _ _ _ _ H_1 g8 ω9 ω9 (fun x y hx hy => by cases hx)
  ·have e := e.trans (cond_f c13)
   have c_13' := ine_f c13
   refine T_f1nz_i ⟨p_Low_a, ba.length, p_Low_e, _, ((o_5.rdN (Nat.le_of_ble_eq_true rfl)).trans rfl), (i_p_Low.grow g8), ω0, ?_⟩
   refine Br.intro (fun c14 => ?_) (fun c14 => ?_)
   ·have e := e.trans (cond_t c14)
    have c_14n := nf_of_t c14
    rw [e] at hk
    exact hk _ _ _ _ _ _ H_1 g8 ω9 ω9 (fun x y hx hy => by cases hx)
   ·have e := e.trans (cond_f c14)
    have c_14n := nt_of_f c14
    have c_14n' := f1nz_t c_14n
    refine ⟨p_Low_a, ba.length, p_Low_e, (o_5.rdC _).trans rfl, ?_⟩
    refine T_f1pz_i ⟨_, _, (i_list.grow g8), (i_p_Low.grow g8), ω0, ω0, ω4, ω4, fun a15 n16 e17 H_2 g20 r_18 => ?_⟩
    have z19 := f1pz_len aa ba
    have l21 := g20.1
    have g22 := g8.trans g20
    have l23 := g22.1
    have o24 := o_5.grow g20
    have w25 := o24.lt
    obtain rfl := r_18.isL.eqn
    have u26 := r_18.up
    have u27 := r_18.lo
    refine T_f1kz_i ⟨p_Low_a, ba.length, p_Low_e, _, ((o24.rdN (Nat.le_of_ble_eq_true rfl)).trans rfl), (i_p_Low.grow g22), ω0, fun a29 n30 e31 H_3 g34 r_32 => ?_⟩
    have z33 := f1kz_len ba
    have l35 := g34.1
    have g36 := g22.trans g34
    have l37 := g36.1
    have o38 := o24.grow g34
    have w39 := o38.lt
    have r40 := r_18.grow g34
    obtain rfl := r_32.isL.eqn
    have u41 := r_32.up
    have u42 := r_32.lo
    refine T_f1pz_i ⟨_, _, (i_list.grow g36), r_32.isL, ω0, ω0, ω4, ω4, fun a44 n45 e46 H_4 g49 r47 => ?_⟩
    have z48 := f1pz_len aa (p_f1kz ba)
    have l50 := g49.1
    have g51 := g36.trans g49
    have l52 := g51.1
    have o53 := o38.grow g49
    have w54 := o53.lt
    have r55 := r40.grow g49
    have r56 := r_32.grow g49
    obtain rfl := r47.isL.eqn
    have u57 := r47.up
    have u58 := r47.lo
    refine T_f10z_i ⟨_, r55.isL, ω0, ?_⟩
    refine Br.intro (fun c60 => ?_) (fun c60 => ?_)
    ·have e := e.trans (cond_t c60)
     have c_60n := nf_of_t c60
     rw [e] at hk
     exact hk _ _ _ _ _ _ H_4 g51 ω9 ω9 (fun x y hx hy => by cases hx)
    ·have e := e.trans (cond_f c60)
     have c_60n := nt_of_f c60
     refine T_f10z_i ⟨_, r47.isL, ω0, ?_⟩
     refine Br.intro (fun c61 => ?_) (fun c61 => ?_)
     ·have e := e.trans (cond_t c61)
      have c_61n := nf_of_t c61
      rw [e] at hk
      exact hk _ _ _ _ _ _ H_4 g51 ω9 ω9 (fun x y hx hy => by cases hx)
     ·have e := e.trans (cond_f c61)
      have c_61n := nt_of_f c61
      rw [e] at hk
      exact hk _ _ _ _ _ _ H_4 g51 (r55.weak ω2) (r47.weak ω2) (fun x y hx hy => by have := u26 x hx; have := u27 x hx; have := u57 y hy; have := u58 y hy; intro hh; omega)
theorem fxz_ok : FnOk Try.prog 162 S_fxz := by
 refine FnOk.body mix_ok E_fxz_ok Try.func162 rfl ω15 ω15 ?_ ?_ ?_ ?_ ?_
 ·intro args H K K' h hk
  simp only [S_fxz] at *
  unfold F_fxz at *
  split at hk
  ·obtain ⟨aa, ba, i_list, i_p_Low, bd_63, bd_64, k⟩ := hk
   exact ⟨aa, ba, i_list, i_p_Low, bd_63, bd_64, (fun ib kb jb pf xf vf H' gg ow0 ow1 sp0_1 => h _ _ (k ib kb jb pf xf vf H' gg ow0 ow1 sp0_1))⟩
  ·exact hk.elim
 ·intro hq; cases hq
 ·intro args H K hk
  simp only [S_fxz] at *
  unfold F_fxz at *
  split at hk
  ·obtain ⟨aa, ba, i_list, i_p_Low, bd_63, bd_64, k⟩ := hk
   exact liveS2 fun a n e a2 n2 e2 H1 g o o2 sp => ⟨_, _, k a n e a2 n2 e2 H1 g o o2 sp⟩
  ·exact hk.elim
 ·intro _ args H K hk
  simp only [S_fxz] at *
  unfold F_fxz at *
  split at hk
  ·obtain ⟨aa, ba, i_list, i_p_Low, bd_63, bd_64, k⟩ := hk
   exact ⟨aa, ba, i_list, i_p_Low, bd_63, bd_64, (fun ib kb jb pf xf vf H' gg ow0 ow1 sp0_1 => ⟨gg, k ib kb jb pf xf vf H' gg ow0 ow1 sp0_1⟩)⟩
  ·exact hk.elim
 ·have mm := @fxz_main
  have ml := fun (args : List Value) (H : AHeap) (K : Value → AHeap → Prop) => bodyL_body (P := Try.prog) (env := E_fxz ) (fn := Try.f162) (args := args) (H := H) (K := K) E_fxz_ok 
  revert mm ml
  generalize bodyK Try.prog E_fxz Try.f162 = Q
  generalize bodyL Try.prog E_fxz Try.f162 = QL
  intro mm ml args H K hk
  simp only [S_fxz] at *
  unfold F_fxz at *
  split at hk
  ·exact ml _ H K (mm _ _ _ _ _ _ H K hk)
  ·exact hk.elim

def p_fdz_l1 (aa : LN) (ba : LN) (levels : Int) : Nat → Int → Bool → LN → (List LN) → LN × (List LN) × Bool
 | 0, _, _, _, _ => ([], [], false)
 | μ + 1, levels_2, t7, q1_3, q1_4 => (bif decide ((0 : Int) < levels_2) then (bif !((p_fxz q1_3 ba).2.2) then ([], [], false) else (p_fdz_l1 aa ba levels μ (levels_2 - 1) t7 ((p_fxz q1_3 ba).1) ((q1_4 ++ [(p_fxz q1_3 ba).2.1])))) else (q1_3, q1_4, true))
def p_fdz_l1_s := fun aa ba levels μ levels_2 t7 q1_3 q1_4 => @p_fdz_l1.eq_2 aa ba levels levels_2 t7 q1_3 q1_4 μ
def p_fdz (aa : LN) (ba : LN) (levels : Int) : LN × (List LN) × Bool := ((bif !(p_f1mz aa) then ([], [], false) else (bif !(p_f1nz ba) then ([], [], false) else (bif !((p_f25z levels (1 : Int) (6 : Int))) then ([], [], false) else (bif (Int.tmod (aa.length : Int) (IntKind.wrap .i64 (1 * 2 ^ (min (levels : Int).toNat (IntKind.bits .i64)))) : Int) != 0 then ([], [], false) else (p_fdz_l1 aa ba levels (Int.toNat (levels - 0) + 1) levels false ((([] : LN) ++ aa)) ([])))))))
def p_fdz_eq := @p_fdz.eq_1
def T_fdz (ea : OA) (da : Nat) (ga : Nat) (p_Low_a : OA) (p_Low_n : Nat) (p_Low_e : Nat) (levels : Int) (H : AHeap) (K : OA → Nat → Nat → OA → Nat → Nat → Bool → AHeap → Prop) : Prop := ∃ (aa : LN), ∃ (ba : LN), IsL fF H ea da aa ∧ IsL fF H p_Low_a p_Low_n ba ∧ aa.length < 1073741824 ∧ ba.length < 1073741824 ∧ ((∀ (mb : OA) (ob nb : Nat), ∀ (db : OA) (gb eb : Nat), ∀ H' : AHeap, Grow H H' → OwnS fF H' H.length mb ob nb ((p_fdz aa ba levels).1) → OwnLL fF H' H.length H'.length db gb eb ((p_fdz aa ba levels).2.1) → K mb ob nb db gb eb ((p_fdz aa ba levels).2.2) H'))
theorem T_fdz_i {ea : OA} {da : Nat} {ga : Nat} {p_Low_a : OA} {p_Low_n : Nat} {p_Low_e : Nat} {levels : Int} {H : AHeap} {K : OA → Nat → Nat → OA → Nat → Nat → Bool → AHeap → Prop} (h : ∃ (aa : LN), ∃ (ba : LN), IsL fF H ea da aa ∧ IsL fF H p_Low_a p_Low_n ba ∧ aa.length < 1073741824 ∧ ba.length < 1073741824 ∧ ((∀ (mb : OA) (ob nb : Nat), ∀ (db : OA) (gb eb : Nat), ∀ H' : AHeap, Grow H H' → OwnS fF H' H.length mb ob nb ((p_fdz aa ba levels).1) → OwnLL fF H' H.length H'.length db gb eb ((p_fdz aa ba levels).2.1) → K mb ob nb db gb eb ((p_fdz aa ba levels).2.2) H'))) : T_fdz ea da ga p_Low_a p_Low_n p_Low_e levels H K := h
theorem fdz_go (l t : LN) (v : Int) : ∀ (μ : Nat) (i : Int) (b : Bool) (q : LN) (ds : List LN), q.length ≤ l.length → (ds.length : Int) + i ≤ 6 → 0 ≤ i → (∀ y ∈ ds, y.length ≤ l.length) →
  (p_fdz_l1 l t v μ i b q ds).1.length ≤ l.length ∧ (p_fdz_l1 l t v μ i b q ds).2.1.length ≤ 6 ∧ ∀ y ∈ (p_fdz_l1 l t v μ i b q ds).2.1, y.length ≤ l.length := by
 intro μ
 induction μ with
 | zero => intro i b q ds h1 h2 h3 h4; exact ⟨Nat.zero_le _, Nat.zero_le _, fun y hy => by cases hy⟩
 | succ μ ih =>
  intro i b q ds h1 h2 h3 h4
  rw [p_fdz_l1_s]
  refine cnb (P := fun r : LN × List LN × Bool => r.1.length ≤ l.length ∧ r.2.1.length ≤ 6 ∧ ∀ y ∈ r.2.1, y.length ≤ l.length) (fun hc => ?_) (fun _ => ⟨h1, by show ds.length ≤ 6; omega, h4⟩)
  have hc := of_decide_eq_true hc
  refine cnb (P := fun r : LN × List LN × Bool => r.1.length ≤ l.length ∧ r.2.1.length ≤ 6 ∧ ∀ y ∈ r.2.1, y.length ≤ l.length) (fun _ => ⟨Nat.zero_le _, Nat.zero_le _, fun y hy => by cases hy⟩) (fun _ => ?_)
  have hr := fxz_len q t
  refine ih _ _ _ _ ω2 ω31 ω2 (fun y hy => ?_)
  rcases List.mem_append.1 hy with hy | hy
  ·exact h4 y hy
  ·rw [List.mem_singleton.1 hy]; omega
theorem fdz_all (l t : LN) (v : Int) : (p_fdz l t v).1.length ≤ l.length ∧ (p_fdz l t v).2.1.length ≤ 6 ∧ ∀ y ∈ (p_fdz l t v).2.1, y.length ≤ l.length := by
 rw [p_fdz_eq]
 refine cnb (P := fun r : LN × List LN × Bool => r.1.length ≤ l.length ∧ r.2.1.length ≤ 6 ∧ ∀ y ∈ r.2.1, y.length ≤ l.length) (fun _ => ⟨Nat.zero_le _, Nat.zero_le _, fun y hy => by cases hy⟩) (fun _ => ?_)
 refine cnb (P := fun r : LN × List LN × Bool => r.1.length ≤ l.length ∧ r.2.1.length ≤ 6 ∧ ∀ y ∈ r.2.1, y.length ≤ l.length) (fun _ => ⟨Nat.zero_le _, Nat.zero_le _, fun y hy => by cases hy⟩) (fun _ => ?_)
 refine cnb (P := fun r : LN × List LN × Bool => r.1.length ≤ l.length ∧ r.2.1.length ≤ 6 ∧ ∀ y ∈ r.2.1, y.length ≤ l.length) (fun _ => ⟨Nat.zero_le _, Nat.zero_le _, fun y hy => by cases hy⟩) (fun hc => ?_)
 have hw := f25z_t (nt_of_f hc)
 refine cnb (P := fun r : LN × List LN × Bool => r.1.length ≤ l.length ∧ r.2.1.length ≤ 6 ∧ ∀ y ∈ r.2.1, y.length ≤ l.length) (fun _ => ⟨Nat.zero_le _, Nat.zero_le _, fun y hy => by cases hy⟩) (fun _ => ?_)
 exact fdz_go l t v _ _ _ _ _ (by rw [List.nil_append]; exact Nat.le_refl _) (by rw [List.length_nil]; omega) ω2 (fun y hy => by cases hy)
theorem fdz_len (l t : LN) (v : Int) : (p_fdz l t v).1.length ≤ l.length ∧ (p_fdz l t v).2.1.length ≤ 6 := ⟨(fdz_all l t v).1, (fdz_all l t v).2.1⟩
theorem fdz_big (l t : LN) (v : Int) : l.length < 1073741824 → ∀ y ∈ (p_fdz l t v).2.1, y.length < 1073741824 := fun h y hy => Nat.lt_of_le_of_lt ((fdz_all l t v).2.2 y hy) h
/-! fdz: function 80 -/
def E_fdz : Env := envOf [(100, S_f1mz), (161, S_f1nz), (93, S_f25z), (162, S_fxz)]
def F_fdz : List Value → AHeap → (Value → AHeap → Prop) → Prop
 | [.slice ea da ga, .agg ⟨[.slice p_Low_a p_Low_n p_Low_e]⟩, .int .i64 levels], H, K => T_fdz ea da ga p_Low_a p_Low_n p_Low_e levels H fun (mb : OA) (ob : Nat) (nb : Nat) (db : OA) (gb : Nat) (eb : Nat) (r2 : Bool) (H' : AHeap) => K (.tuple #[.agg #[.slice mb ob nb, .slice db gb eb], .bool r2]) H'
 | _, _, _ => False
def S_fdz : FSpec := { F := F_fdz, quiet := false, tame := true }
theorem fdz_vc (ea : OA) (da : Nat) (ga : Nat) (p_Low_a : OA) (p_Low_n : Nat) (p_Low_e : Nat) (levels : Int) (H : AHeap) (K : Value → AHeap → Prop) : bodyL Try.prog E_fdz Try.f80 [.slice ea da ga, .agg #[.slice p_Low_a p_Low_n p_Low_e], .int .i64 levels] H K =
 (Al [.slice p_Low_a p_Low_n p_Low_e] H fun b1 H1 => Al [.slice none 0 0, .slice none 0 0] H1 fun b2 H2 => T_f1mz ea da ga H2 fun (r1 : Bool) (H3 : AHeap) => Br (!r1) (isOwn H3 b2 ∧ (∃ l, rdN H3 b2 0 2 = some l) ∧ Lt (setN H3 b2 0 [.slice none 0 0, .slice none 0 0]) fun H4 => ∃ xe : OA, ∃ ze : Nat, ∃ ye : Nat, ∃ af : OA, ∃ cf : Nat, ∃ bf : Nat,  rdN H4 b2 0 2 = some [.slice xe ze ye, .slice af cf bf] ∧ K (.tuple #[.agg #[.slice xe ze ye, .slice af cf bf], .bool false]) H4) (T_f1nz b1 H3 fun (r2 : Bool) (H5 : AHeap) => Br (!r2) (isOwn H5 b2 ∧ (∃ l, rdN H5 b2 0 2 = some l) ∧ Lt (setN H5 b2 0 [.slice none 0 0, .slice none 0 0]) fun H6 => ∃ yf : OA, ∃ ag : Nat, ∃ zf : Nat, ∃ bg : OA, ∃ eg : Nat, ∃ dg : Nat,  rdN H6 b2 0 2 = some [.slice yf ag zf, .slice bg eg dg] ∧ K (.tuple #[.agg #[.slice yf ag zf, .slice bg eg dg], .bool false]) H6) (T_f25z levels 1 6 H5 fun (r3 : Bool) (H7 : AHeap) => Br (!r3) (isOwn H7 b2 ∧ (∃ l, rdN H7 b2 0 2 = some l) ∧ Lt (setN H7 b2 0 [.slice none 0 0, .slice none 0 0]) fun H8 => ∃ fg : OA, ∃ jg : Nat, ∃ ig : Nat, ∃ kg : OA, ∃ mg : Nat, ∃ lg : Nat,  rdN H8 b2 0 2 = some [.slice fg jg ig, .slice kg mg lg] ∧ K (.tuple #[.agg #[.slice fg jg ig, .slice kg mg lg], .bool false]) H8) ((0 : Int) ≤ levels ∧ IntKind.wrap .i64 (1 * 2 ^ (min (levels : Int).toNat (IntKind.bits .i64))) ≠ (0 : Int) ∧ Br ((Int.tmod (da : Int) (IntKind.wrap .i64 (1 * 2 ^ (min (levels : Int).toNat (IntKind.bits .i64)))) : Int) != 0) (isOwn H7 b2 ∧ (∃ l, rdN H7 b2 0 2 = some l) ∧ Lt (setN H7 b2 0 [.slice none 0 0, .slice none 0 0]) fun H9 => ∃ ng : OA, ∃ pg : Nat, ∃ og : Nat, ∃ qg : OA, ∃ tg : Nat, ∃ rg : Nat,  rdN H9 b2 0 2 = some [.slice ng pg og, .slice qg tg rg] ∧ K (.tuple #[.agg #[.slice ng pg og, .slice qg tg rg], .bool false]) H9) (Al [] H7 fun b3 H10 => ∃ o1 w1 : List Value, ownB H10 (some ⟨b3, 0, none⟩) 0 1 1 = some o1 ∧ rdS H10 ea (da * 1) = some w1 ∧ ((some ⟨b3, 0, none⟩ : OA) = none → 0 < (da : Nat)) ∧ (0 : Nat) + da < most ∧ Ap H10 (killB H10 (some ⟨b3, 0, none⟩) ++ [some ⟨o1 ++ w1, true⟩]) fun b4 H11 => Al [.slice none 0 0, .slice none 0 0] H11 fun b5 H12 => isOwn H12 b5 ∧ (∃ l, rdN H12 b5 0 2 = some l) ∧ Lt (setN H12 b5 0 [.slice (some ⟨b4, 0, none⟩) (0 + da) 1, .slice none 0 0]) fun H13 => loopK (exL Try.prog E_fdz (cl (cl (cl (cr (cr (cr (bodyC Try.f80))))))) 340 192 [(0, 320)]) (ud2 (.int .i64 levels :: ud :: .pointer (some ⟨b1, 0, none⟩) :: ud :: .pointer (some ⟨b2, 0, none⟩) :: ud :: .pointer (some ⟨b5, 0, none⟩) :: ud52 [])) H13 (blockQ 0 (seqQ (exL Try.prog E_fdz (cr (cr (cr (cr (bodyC Try.f80))))) 192 192 []) (retK Try.prog Try.f80 K)))))))) := by kernel_rfl
abbrev fdz_P1 (b1 : Nat) (b2 : Nat) (b5 : Nat) (levels_2 : Int)  : List Value := (ud2 (.int .i64 levels_2 :: ud :: .pointer (some ⟨b1, 0, none⟩) :: ud :: .pointer (some ⟨b2, 0, none⟩) :: ud :: .pointer (some ⟨b5, 0, none⟩) :: ud52 []))
theorem fdz_r1 (b1 : Nat) (b2 : Nat) (b5 : Nat) (levels_2 : Int)  (H : AHeap) (R : Post) : exL Try.prog E_fdz (cl (cl (cl (cr (cr (cr (bodyC Try.f80))))))) 340 192 [(0, 320)] (fdz_P1 b1 b2 b5 levels_2) H R =
 (Br (decide ((0 : Int) < levels_2)) (∃ sc : OA, ∃ bb : Nat, ∃ tc : Nat,  rdC H b5 0 = some (.slice sc bb tc) ∧ ∃ jh : OA, ∃ lh : Nat, ∃ kh : Nat,  rdN H b1 0 1 = some [.slice jh lh kh] ∧ T_fxz sc bb tc jh lh kh H fun (a1 : OA) (r4 : Nat) (r5 : Nat) (a2 : OA) (r6 : Nat) (r7 : Nat) (r8 : Bool) (H14 : AHeap) => Br (!r8) (isOwn H14 b2 ∧ (∃ l, rdN H14 b2 0 2 = some l) ∧ Lt (setN H14 b2 0 [.slice none 0 0, .slice none 0 0]) fun H15 => R .ret (ud6 (.pointer (some ⟨b2, 0, none⟩) :: .bool false :: ud53 [])) H15) (isOwn H14 b5 ∧ (∃ l, rdN H14 b5 0 1 = some l) ∧ Lt (setC H14 b5 0 (.slice a1 r4 r5)) fun H16 => ∃ oe : OA, ∃ je : Nat, ∃ te : Nat,  rdC H16 b5 1 = some (.slice oe je te) ∧ Al [.slice a2 r6 r7] H16 fun b6 H17 => ∃ o2 w2 : List Value, ownB H17 oe je te 1 = some o2 ∧ rdS H17 (some ⟨b6, 0, none⟩) (1 * 1) = some w2 ∧ ((oe : OA) = none → 0 < (1 : Nat)) ∧ (je : Nat) + 1 < most ∧ Ap H17 (killB H17 oe ++ [some ⟨o2 ++ w2, true⟩]) fun b7 H18 => isOwn H18 b5 ∧ (∃ l, rdN H18 b5 1 1 = some l) ∧ Lt (setC H18 b5 1 (.slice (some ⟨b7, 0, none⟩) (je + 1) 1)) fun H19 => R .normal (ud2 (.int .i64 (IntKind.wrap .i64 (levels_2 - 1)) :: ud :: .pointer (some ⟨b1, 0, none⟩) :: ud :: .pointer (some ⟨b2, 0, none⟩) :: ud :: .pointer (some ⟨b5, 0, none⟩) :: ud52 [])) H19)) (R (.exit 0) (ud6 (.pointer (some ⟨b2, 0, none⟩) :: ud :: .pointer (some ⟨b5, 0, none⟩) :: ud52 [])) H)) := by kernel_rfl
def fdz_I1 (b1 : Nat) (b2 : Nat) (b5 : Nat) (Inv : Nat → Int → AHeap → Prop) : Nat → List Value → AHeap → Prop := fun μ tm H => ∃ (levels_2 : Int), tm = (fdz_P1 b1 b2 b5 levels_2) ∧ Inv μ levels_2 H
theorem fdz_L1 (b1 : Nat) (b2 : Nat) (b5 : Nat) {Q : Post} (Inv : Nat → Int → AHeap → Prop) (ν : Nat) (levels_2 : Int)  (H : AHeap) (h0 : Inv ν levels_2 H)
  (hs : ∀ (μ : Nat) (levels_2 : Int)  (H : AHeap), Inv μ levels_2 H → exL Try.prog E_fdz (cl (cl (cl (cr (cr (cr (bodyC Try.f80))))))) 340 192 [(0, 320)] (fdz_P1 b1 b2 b5 levels_2) H (loopQ (fdz_I1 b1 b2 b5 Inv) μ Q)) : loopK (exL Try.prog E_fdz (cl (cl (cl (cr (cr (cr (bodyC Try.f80))))))) 340 192 [(0, 320)]) (fdz_P1 b1 b2 b5 levels_2) H Q :=
 ⟨fdz_I1 b1 b2 b5 Inv, ν, ⟨levels_2, rfl, h0⟩, fun μ tm H h => by obtain ⟨levels_2, rfl, hI⟩ := h; exact hs μ levels_2  H hI⟩
theorem fdz_n1 {b1 : Nat} {b2 : Nat} {b5 : Nat} {Q : Post} {Inv : Nat → Int → AHeap → Prop} {μ : Nat} (μ' : Nat) {levels_2 : Int}  {H : AHeap} (hm : μ' < μ) (hI : Inv μ' levels_2 H) : loopQ (fdz_I1 b1 b2 b5 Inv) μ Q .normal (fdz_P1 b1 b2 b5 levels_2) H := ⟨μ', hm, levels_2, rfl, hI⟩
theorem fdz_x1_0 (b2 : Nat) (b5 : Nat) (H : AHeap) (K : Value → AHeap → Prop)  {I : Nat → List Value → AHeap → Prop} {μ : Nat} : loopQ I μ (blockQ 0 (seqQ (exL Try.prog E_fdz (cr (cr (cr (cr (bodyC Try.f80))))) 192 192 []) (retK Try.prog Try.f80 K))) (.exit 0) (ud6 (.pointer (some ⟨b2, 0, none⟩) :: ud :: .pointer (some ⟨b5, 0, none⟩) :: ud52 [])) H =
 (∃ ug : OA, ∃ wg : Nat, ∃ vg : Nat, ∃ ah : OA, ∃ dh : Nat, ∃ bh : Nat,  rdN H b5 0 2 = some [.slice ug wg vg, .slice ah dh bh] ∧ isOwn H b2 ∧ (∃ l, rdN H b2 0 2 = some l) ∧ Lt (setN H b2 0 [.slice ug wg vg, .slice ah dh bh]) fun H20 => ∃ eh : OA, ∃ gh : Nat, ∃ fh : Nat, ∃ oh : OA, ∃ qh : Nat, ∃ ph : Nat,  rdN H20 b2 0 2 = some [.slice eh gh fh, .slice oh qh ph] ∧ K (.tuple #[.agg #[.slice eh gh fh, .slice oh qh ph], .bool true]) H20) := by kernel_rfl
theorem fdz_x1_ret (b2 : Nat) (t7 : Bool) (H : AHeap) (K : Value → AHeap → Prop)  {I : Nat → List Value → AHeap → Prop} {μ : Nat} : loopQ I μ (blockQ 0 (seqQ (exL Try.prog E_fdz (cr (cr (cr (cr (bodyC Try.f80))))) 192 192 []) (retK Try.prog Try.f80 K))) .ret (ud6 (.pointer (some ⟨b2, 0, none⟩) :: .bool t7 :: ud53 [])) H =
 (∃ rh : OA, ∃ uh : Nat, ∃ th : Nat, ∃ vh : OA, ∃ xh : Nat, ∃ wh : Nat,  rdN H b2 0 2 = some [.slice rh uh th, .slice vh xh wh] ∧ K (.tuple #[.agg #[.slice rh uh th, .slice vh xh wh], .bool t7]) H) := by kernel_rfl
theorem E_fdz_ok : ∀ g, FnOk Try.prog g (E_fdz g) := FnOk.envOf (by
 intro x hx
 simp only [List.mem_cons, List.not_mem_nil, or_false] at hx
 rcases hx with rfl | rfl | rfl | rfl
 ·exact f1mz_ok
 ·exact f1nz_ok
 ·exact f25z_ok
 ·exact fxz_ok)
theorem ω33 {P : Prop} (h : P := by first | omega | decide | (simp; done) | (simp; omega) | (exact shl_ne (by omega) (by omega))) : P := h
theorem ω30 {P : Prop} (h : P := by first | exact o111 | (have hbx := o111; (try simp only [List.length_append, List.length_cons, List.length_nil, Nat.zero_add] at hbx); (try simp only [List.length_append, List.length_cons, List.length_nil, Nat.zero_add]); exact hbx)) : P := h
theorem fdz_main (ea : OA) (da : Nat) (ga : Nat) (p_Low_a : OA) (p_Low_n : Nat) (p_Low_e : Nat) (levels : Int) (H : AHeap) (K : Value → AHeap → Prop) (h : T_fdz ea da ga p_Low_a p_Low_n p_Low_e levels H fun (mb : OA) (ob : Nat) (nb : Nat) (db : OA) (gb : Nat) (eb : Nat) (r2 : Bool) (H' : AHeap) => K (.tuple #[.agg #[.slice mb ob nb, .slice db gb eb], .bool r2]) H') : bodyL Try.prog E_fdz Try.f80 [.slice ea da ga, .agg #[.slice p_Low_a p_Low_n p_Low_e], .int .i64 levels] H K := by
 rw [fdz_vc]
 obtain ⟨aa, ba, i_list, i_p_Low, bd_277, bd_278, hk⟩ := h
 obtain rfl := i_list.eqn
 obtain rfl := i_p_Low.eqn
 have e : (p_fdz aa ba levels) = _ := rfl
 have e := e.trans (p_fdz_eq aa ba levels)
 have g0 := Grow.refl H
 refine Al.intro (fun b_1 H_1 hb_2 hl_3 g_4 o_5 => ?_)
 have l7 := g_4.1
 have g8 := g0.trans g_4
 have l9 := g8.1
 have w276 := o_5.lt
 refine Al.intro (fun b_10 H_2 hb_11 hl_12 g13 o14 => ?_)
 have l16 := g13.1
 have g17 := g8.trans g13
 have l18 := g17.1
 have o19 := o_5.grow g13
 have w20 := o19.lt
 have w275 := o14.lt
 refine T_f1mz_i ⟨_, (i_list.grow g17), ω0, ?_⟩
 refine Br.intro (fun c21 => ?_) (fun c21 => ?_)
 ·have e := e.trans (cond_t c21)
  have c_21n := nf_of_t c21
  refine Lt.setN (n := 2) o14 (Nat.le_of_ble_eq_true rfl) rfl (fun H_3 hl_22 o24 k23 => ?_)
  have o24 : Own H_3 b_10 [.slice none 0 0, .slice none 0 0] := o24
  have l25 := k23.1
  have g26 := g17.keep (b := b_10) ω2 k23
  have l27 := g26.1
  have o28 := o19.keep ω2 k23
  have w29 := o28.lt
  have w30 := o24.lt
  refine ⟨none, 0, 0, none, 0, 0, (o24.rdN (Nat.le_of_ble_eq_true rfl)).trans rfl, ?_⟩
  rw [e] at hk
  exact hk _ _ _ _ _ _ H_3 g26 ω9 ω9
 ·have e := e.trans (cond_f c21)
  have c_21n := nt_of_f c21
  have c_21n' := f1mz_t c_21n
  refine T_f1nz_i ⟨p_Low_a, ba.length, p_Low_e, _, ((o19.rdN (Nat.le_of_ble_eq_true rfl)).trans rfl), (i_p_Low.grow g17), ω0, ?_⟩
  refine Br.intro (fun c31 => ?_) (fun c31 => ?_)
  ·have e := e.trans (cond_t c31)
   have c_31n := nf_of_t c31
   refine Lt.setN (n := 2) o14 (Nat.le_of_ble_eq_true rfl) rfl (fun H_4 hl_32 o34 k33 => ?_)
   have o34 : Own H_4 b_10 [.slice none 0 0, .slice none 0 0] := o34
   have l35 := k33.1
   have g36 := g17.keep (b := b_10) ω2 k33
   have l37 := g36.1
   have o38 := o19.keep ω2 k33
   have w39 := o38.lt
   have w40 := o34.lt
   refine ⟨none, 0, 0, none, 0, 0, (o34.rdN (Nat.le_of_ble_eq_true rfl)).trans rfl, ?_⟩
   rw [e] at hk
   exact hk _ _ _ _ _ _ H_4 g36 ω9 ω9
  ·have e := e.trans (cond_f c31)
   have c_31n := nt_of_f c31
   have c_31n' := f1nz_t c_31n
   refine T_f25z_i ?_
   refine Br.intro (fun c41 => ?_) (fun c41 => ?_)
   ·have e := e.trans (cond_t c41)
    have c_41n := nf_of_t c41
    refine Lt.setN (n := 2) o14 (Nat.le_of_ble_eq_true rfl) rfl (fun H_5 hl_42 o44 k43 => ?_)
    have o44 : Own H_5 b_10 [.slice none 0 0, .slice none 0 0] := o44
    have l45 := k43.1
    have g46 := g17.keep (b := b_10) ω2 k43
    have l47 := g46.1
    have o48 := o19.keep ω2 k43
    have w49 := o48.lt
    have w50 := o44.lt
    refine ⟨none, 0, 0, none, 0, 0, (o44.rdN (Nat.le_of_ble_eq_true rfl)).trans rfl, ?_⟩
    rw [e] at hk
    exact hk _ _ _ _ _ _ H_5 g46 ω9 ω9
   ·have e := e.trans (cond_f c41)
    have c_41n := nt_of_f c41
    have c_41n' := f25z_t c_41n
    refine ⟨ω33, ?_⟩
    refine ⟨ω33, ?_⟩
    have z51 := tmod_rng (aa.length : Int) (IntKind.wrap .i64 (1 * 2 ^ (min (levels : Int).toNat (IntKind.bits .i64))))
    have z52 := tmod_nn (aa.length : Int) (IntKind.wrap .i64 (1 * 2 ^ (min (levels : Int).toNat (IntKind.bits .i64))))
    refine Br.intro (fun c53 => ?_) (fun c53 => ?_)
    ·have e := e.trans (cond_t c53)
     have c_53' := ine_t c53
     refine Lt.setN (n := 2) o14 (Nat.le_of_ble_eq_true rfl) rfl (fun H_6 hl_54 o56 k55 => ?_)
     have o56 : Own H_6 b_10 [.slice none 0 0, .slice none 0 0] := o56
     have l57 := k55.1
     have g58 := g17.keep (b := b_10) ω2 k55
     have l59 := g58.1
     have o60 := o19.keep ω2 k55
     have w61 := o60.lt
     have w62 := o56.lt
     refine ⟨none, 0, 0, none, 0, 0, (o56.rdN (Nat.le_of_ble_eq_true rfl)).trans rfl, ?_⟩
     rw [e] at hk
     exact hk _ _ _ _ _ _ H_6 g58 ω9 ω9
    ·have e := e.trans (cond_f c53)
     have c_53' := ine_f c53
     refine Al.intro (fun b63 H_7 hb_64 hl_65 g66 o67 => ?_)
     have o67 : Own H_7 b63 ((([] : LN)).map fF) := o67
     have l69 := g66.1
     have g70 := g17.trans g66
     have l71 := g70.1
     have o72 := o19.grow g66
     have w73 := o72.lt
     have o74 := o14.grow g66
     have w75 := o74.lt
     have w274 := o67.lt
     refine ⟨_, _, o67.ownB ω5 rfl, (isl_rdS (i_list.grow g70)), (fun h => by cases h), ω24, ?_⟩
     refine Ap.app o67 rfl rfl (fun b80 H_8 q272 hl_76 o77 k78 => ?_)
     have o77 := map_snoc o77
     have l81 := k78.1
     have g82 := g70.keep (b := b63) ω2 k78
     have l83 := g82.1
     have o84 := o72.keep ω2 k78
     have w85 := o84.lt
     have o86 := o74.keep ω2 k78
     have w87 := o86.lt
     have w273 := o77.lt
     refine Al.intro (fun b88 H_9 hb_89 hl_90 g91 o92 => ?_)
     have l94 := g91.1
     have g95 := g82.trans g91
     have l96 := g95.1
     have o97 := o84.grow g91
     have w98 := o97.lt
     have o99 := o86.grow g91
     have w100 := o99.lt
     have o101 := o77.grow g91
     have w102 := o101.lt
     have w271 := o92.lt
     refine Lt.setN (n := 2) o92 (Nat.le_of_ble_eq_true rfl) rfl (fun H_10 hl_103 o105 k104 => ?_)
     have o105 : Own H_10 b88 [.slice (some ⟨b80, 0, none⟩) (0 + aa.length) 1, .slice none 0 0] := o105
     have l106 := k104.1
     have g107 := g95.keep (b := b88) ω2 k104
     have l108 := g107.1
     have o109 := o97.keep ω2 k104
     have w110 := o109.lt
     have o111 := o99.keep ω2 k104
     have w112 := o111.lt
     have o113 := o101.keep ω2 k104
     have w114 := o113.lt
     have w270 := o105.lt
     refine fdz_L1 _ _ _ (fun (μ : Nat) (levels_2 : Int) (H_11 : AHeap) => ∃ (t7 : Bool), ∃ (q1_3 : LN), ∃ (mf : OA), ∃ (nf : Nat), ∃ (q1_4 : List LN), ∃ (xd : OA), ∃ (yd : Nat), Own H_11 b_1 ([.slice p_Low_a ba.length p_Low_e]) ∧ Own H_11 b_10 [.slice none 0 0, .slice none 0 0] ∧ OwnS fF H_11 b80 mf q1_3.length nf q1_3 ∧ OwnLL fF H_11 H_10.length H_11.length xd q1_4.length yd q1_4 ∧ Own H_11 b88 [.slice mf q1_3.length nf, .slice xd q1_4.length yd] ∧ (b_10 ≠ b_1) ∧ (b88 ≠ b_1) ∧ (b88 ≠ b_10) ∧ Grow H H_11 ∧ (levels_2 ≤ levels ∨ 0 ≤ levels_2) ∧ q1_3.length ≤ aa.length ∧ (q1_4.length : Int) + levels_2 ≤ levels ∧ 0 ≤ levels_2 ∧ levels_2 ≤ levels ∧ levels_2 - 0 ≤ (μ : Int) ∧ p_fdz aa ba levels = p_fdz_l1 aa ba levels (μ + 1) levels_2 t7 q1_3 q1_4) (Int.toNat (levels - 0)) _ H_10 ?_ ?_
     ·exact ⟨_, _, _, _, _, _, _, o109, ω30, (o113.ownS ω8 (Nat.le_refl _)), (OwnLL.nil _ _ _ _), (by first | exact o105 | (have hbx := o105; (try simp only [List.length_append, List.length_cons, List.length_nil, Nat.zero_add] at hbx); (try simp only [List.length_append, List.length_cons, List.length_nil, Nat.zero_add]); exact hbx)), ω2, ω2, ω2, g107, ω7, ω7, ω7, ω7, ω7, ω2, e⟩
     ·intro μ levels_2  H_11 hI
      obtain ⟨t7, q1_3, mf, nf, q1_4, xd, yd, o115, o116, r119, r123, o117, n126, n127, n128, g129, v130, v131, v132, v133, v134, hμ, e⟩ := hI
      rw [fdz_r1]
      have e := e.trans (p_fdz_l1_s aa ba levels μ levels_2 t7 q1_3 q1_4)
      have u120 := r119.up
      have u121 := r119.lo
      have u124 := r123.up
      have u125 := r123.lo
      have w135 := o115.lt
      have w136 := o116.lt
      have w137 := o117.lt
      have l138 := g129.1
      refine Br.intro (fun c139 => ?_) (fun c139 => ?_)
      ·have e := e.trans (cond_t c139)
       have c_139' := of_decide_eq_true c139
       refine ⟨mf, q1_3.length, nf, (o117.rdC _).trans rfl, ?_⟩
       refine ⟨p_Low_a, ba.length, p_Low_e, (o115.rdN (Nat.le_of_ble_eq_true rfl)).trans rfl, ?_⟩
       refine T_fxz_i ⟨_, _, r119.isL, (i_p_Low.grow g129), ω0, ω0, fun a140 n141 e142 a144 n145 e146 H_12 g149 r143 r147 p167 => ?_⟩
       have z148 := fxz_len q1_3 ba
       have l150 := g149.1
       have g151 := g129.trans g149
       have l152 := g151.1
       have o153 := o115.grow g149
       have w154 := o153.lt
       have o155 := o116.grow g149
       have w156 := o155.lt
       have o157 := o117.grow g149
       have w158 := o157.lt
       have r159 := r119.grow g149
       have r160 := r123.grow g149
       obtain rfl := r143.isL.eqn
       have u161 := r143.up
       have u162 := r143.lo
       obtain rfl := r147.isL.eqn
       have u164 := r147.up
       have u165 := r147.lo
       refine Br.intro (fun c168 => ?_) (fun c168 => ?_)
       ·have e := e.trans (cond_t c168)
        have c_168n := nf_of_t c168
        refine Lt.setN (n := 2) o155 (Nat.le_of_ble_eq_true rfl) rfl (fun H_13 hl_169 o171 k170 => ?_)
        have o171 : Own H_13 b_10 [.slice none 0 0, .slice none 0 0] := o171
        have l172 := k170.1
        have g173 := g151.keep (b := b_10) ω2 k170
        have l174 := g173.1
        have o175 := o153.keep ω2 k170
        have w176 := o175.lt
        have o177 := o157.keep ω2 k170
        have w178 := o177.lt
        have r179 := r159.keep u120 ω2 k170
        have r180 := r160.keep ω2 k170
        have r181 := r143.keep u161 ω2 k170
        have r182 := r147.keep u164 ω2 k170
        have w183 := o171.lt
        rw [fdz_x1_ret]
        refine ⟨none, 0, 0, none, 0, 0, (o171.rdN (Nat.le_of_ble_eq_true rfl)).trans rfl, ?_⟩
        rw [e] at hk
        exact hk _ _ _ _ _ _ H_13 g173 ω9 ω9
       ·have e := e.trans (cond_f c168)
        have c_168n := nt_of_f c168
        refine Lt.set o157 (Nat.le_of_ble_eq_true rfl) (fun H_14 hl_184 o186 k185 => ?_)
        have o186 : Own H_14 b88 [.slice a140 (((p_fxz q1_3 ba).1).length) e142, .slice xd q1_4.length yd] := o186
        have l187 := k185.1
        have g188 := g151.keep (b := b88) ω2 k185
        have l189 := g188.1
        have o190 := o153.keep ω2 k185
        have w191 := o190.lt
        have o192 := o155.keep ω2 k185
        have w193 := o192.lt
        have r194 := r160.keep ω2 k185
        have r195 := r143.keep u161 ω2 k185
        have r196 := r147.keep u164 ω2 k185
        have w256 := o186.lt
        refine ⟨xd, q1_4.length, yd, (o186.rdC _).trans rfl, ?_⟩
        refine Al.intro (fun b197 H_15 hb_198 hl_199 g200 o201 => ?_)
        have l203 := g200.1
        have g204 := g188.trans g200
        have l205 := g204.1
        have o206 := o190.grow g200
        have w207 := o206.lt
        have o208 := o192.grow g200
        have w209 := o208.lt
        have o210 := o186.grow g200
        have w211 := o210.lt
        have r212 := r194.grow g200
        have r213 := r195.grow g200
        have r214 := r196.grow g200
        have w255 := o201.lt
        obtain ⟨v218, q219, q220, q221⟩ := r212.ownB
        refine ⟨v218, _, q219, o201.rdAll rfl, (fun _ => by decide), ω24, ?_⟩
        refine Ap.appLL r212 ω2 r214 ω2 ω2 (fun x hx => by have := u164 x hx; have := u165 x hx; omega) q219 rfl (fun b224 H_16 q222 hl_215 o216 k217 => ?_)
        have l225 := k217.1
        have g226 := g204.keepA (fun x hx => by have := u125 x hx; omega) k217
        have l227 := g226.1
        have o228 := o206.keepA (fun x hx => by have := u125 x hx; have := u124 x hx; omega) k217
        have w229 := o228.lt
        have o230 := o208.keepA (fun x hx => by have := u125 x hx; have := u124 x hx; omega) k217
        have w231 := o230.lt
        have o232 := o210.keepA (fun x hx => by have := u125 x hx; have := u124 x hx; omega) k217
        have w233 := o232.lt
        have o234 := o201.keepA (fun x hx => by have := u125 x hx; have := u124 x hx; omega) k217
        have w235 := o234.lt
        have r236 := r213.keepA (fun x y hx hy => by have := u125 x hx; have := u124 x hx; have := u162 y hy; have := u161 y hy; omega) k217
        have w253 := o216.lt
        have v254 := o216.rng
        refine Lt.set o232 (Nat.le_of_ble_eq_true rfl) (fun H_17 hl_237 o239 k238 => ?_)
        have o239 : Own H_17 b88 [.slice a140 (((p_fxz q1_3 ba).1).length) e142, .slice (some ⟨b224, 0, none⟩) (q1_4.length + 1) 1] := o239
        have l240 := k238.1
        have g241 := g226.keep (b := b88) ω2 k238
        have l242 := g241.1
        have o243 := o228.keep ω2 k238
        have w244 := o243.lt
        have o245 := o230.keep ω2 k238
        have w246 := o245.lt
        have o247 := o234.keep ω2 k238
        have w248 := o247.lt
        have o249 := o216.keep ω2 k238
        have w250 := o249.lt
        have r251 := r236.keep u161 ω2 k238
        have w252 := o239.lt
        rw [show IntKind.wrap .i64 (levels_2 - 1) = (levels_2 - 1) from wrap64 ω2 ω2]
        refine fdz_n1 (μ - 1) ω17 ⟨_, _, _, _, _, _, _, o243, (by first | exact o245 | (have hbx := o245; (try simp only [List.length_append, List.length_cons, List.length_nil, Nat.zero_add] at hbx); (try simp only [List.length_append, List.length_cons, List.length_nil, Nat.zero_add]); exact hbx)), (r251.weak ω2), ((o249.ownLL rfl).weak ω2 ω2 (Nat.le_refl _)), (by first | exact o239 | (have hbx := o239; (try simp only [List.length_append, List.length_cons, List.length_nil, Nat.zero_add] at hbx); (try simp only [List.length_append, List.length_cons, List.length_nil, Nat.zero_add]); exact hbx)), ω2, ω2, ω2, g241, ω1, ω1, ω1, ω1, ω1, ω17, ω12⟩
      ·have e := e.trans (cond_f c139)
       have c_139' := of_decide_eq_false c139
       rw [fdz_x1_0]
       refine ⟨mf, q1_3.length, nf, xd, q1_4.length, yd, (o117.rdN (Nat.le_of_ble_eq_true rfl)).trans rfl, ?_⟩
       refine Lt.setN (n := 2) o116 (Nat.le_of_ble_eq_true rfl) rfl (fun H_18 hl_257 o259 k258 => ?_)
       have o259 : Own H_18 b_10 [.slice mf q1_3.length nf, .slice xd q1_4.length yd] := o259
       have l260 := k258.1
       have g261 := g129.keep (b := b_10) ω2 k258
       have l262 := g261.1
       have o263 := o115.keep ω2 k258
       have w264 := o263.lt
       have o265 := o117.keep ω2 k258
       have w266 := o265.lt
       have r267 := r119.keep u120 ω2 k258
       have r268 := r123.keep ω2 k258
       have w269 := o259.lt
       refine ⟨mf, q1_3.length, nf, xd, q1_4.length, yd, (o259.rdN (Nat.le_of_ble_eq_true rfl)).trans rfl, ?_⟩
       rw [e] at hk
       exact hk _ _ _ _ _ _ H_18 g261 (r267.weak ω2) (r268.weak ω2 ω2 (Nat.le_refl _))
theorem fdz_ok : FnOk Try.prog 80 S_fdz := by
 refine FnOk.body mix_ok E_fdz_ok Try.func80 rfl ω15 ω15 ?_ ?_ ?_ ?_ ?_
 ·intro args H K K' h hk
  simp only [S_fdz] at *
  unfold F_fdz at *
  split at hk
  ·obtain ⟨aa, ba, i_list, i_p_Low, bd_277, bd_278, k⟩ := hk
   exact ⟨aa, ba, i_list, i_p_Low, bd_277, bd_278, (fun mb ob nb db gb eb H' gg ow0 ow1 => h _ _ (k mb ob nb db gb eb H' gg ow0 ow1))⟩
  ·exact hk.elim
 ·intro hq; cases hq
 ·intro args H K hk
  simp only [S_fdz] at *
  unfold F_fdz at *
  split at hk
  ·obtain ⟨aa, ba, i_list, i_p_Low, bd_277, bd_278, k⟩ := hk
   exact liveSL fun a n e a2 n2 e2 H1 g o o2 => ⟨_, _, k a n e a2 n2 e2 H1 g o o2⟩
  ·exact hk.elim
 ·intro _ args H K hk
  simp only [S_fdz] at *
  unfold F_fdz at *
  split at hk
  ·obtain ⟨aa, ba, i_list, i_p_Low, bd_277, bd_278, k⟩ := hk
   exact ⟨aa, ba, i_list, i_p_Low, bd_277, bd_278, (fun mb ob nb db gb eb H' gg ow0 ow1 => ⟨gg, k mb ob nb db gb eb H' gg ow0 ow1⟩)⟩
  ·exact hk.elim
 ·have mm := @fdz_main
  have ml := fun (args : List Value) (H : AHeap) (K : Value → AHeap → Prop) => bodyL_body (P := Try.prog) (env := E_fdz ) (fn := Try.f80) (args := args) (H := H) (K := K) E_fdz_ok 
  revert mm ml
  generalize bodyK Try.prog E_fdz Try.f80 = Q
  generalize bodyL Try.prog E_fdz Try.f80 = QL
  intro mm ml args H K hk
  simp only [S_fdz] at *
  unfold F_fdz at *
  split at hk
  ·exact ml _ H K (mm _ _ _ _ _ _ _ H K hk)
  ·exact hk.elim

def p_f1az_l1 (ab : LN) (la : List LN) : Nat → Bool → Int → Bool
 | 0, _, _ => false
 | μ + 1, t2, t39 => (bif decide ((t39 : Int) < (la.length : Int)) then (bif decide ((((((la).getD (t39 : Int).toNat [])).length : Int) : Int) < 1) then false else (bif !((p_f10z (((la).getD (t39 : Int).toNat [])))) then false else (bif decide ((0 : Int) < t39) then (bif (((((la).getD ((t39 - 1) : Int).toNat [])).length : Int) : Int) != IntKind.wrap .i64 (2 * (((((la).getD (t39 : Int).toNat [])).length : Int))) then false else (p_f1az_l1 ab la μ t2 (t39 + 1))) else (p_f1az_l1 ab la μ t2 (t39 + 1))))) else ((ab.length : Int) : Int) == ((((la).getD (((la.length : Int) - 1) : Int).toNat [])).length : Int))
def p_f1az_l1_s := fun ab la μ t2 t39 => @p_f1az_l1.eq_2 ab la t2 t39 μ
def p_f1az (ab : LN) (la : List LN) : Bool := (bif decide (((la.length : Int) : Int) < 1) then false else (bif decide ((6 : Int) < (la.length : Int)) then false else (bif decide ((64 : Int) < ((((la).getD (0 : Int).toNat [])).length : Int)) then false else (bif !(p_f10z ab) then false else (p_f1az_l1 ab la (Int.toNat ((la.length : Int) - (0 : Int)) + 1) false (0 : Int))))))
def p_f1az_eq := @p_f1az.eq_1
def T_f1az (b : Nat) (H : AHeap) (K : Bool → AHeap → Prop) : Prop := ∃ (yb : OA), ∃ (cc : Nat), ∃ (fc : Nat), ∃ (pb : OA), ∃ (wb : Nat), ∃ (rb : Nat), ∃ (ab : LN), ∃ (la : List LN), rdN H b 0 2 = some [.slice yb cc fc, .slice pb wb rb] ∧ IsL fF H yb cc ab ∧ IsLL fF H pb wb la ∧ ab.length < 1073741824 ∧ la.length < 1073741824 ∧ (∀ y ∈ la, y.length < 1073741824) ∧ K (p_f1az ab la) H
theorem T_f1az_i {b : Nat} {H : AHeap} {K : Bool → AHeap → Prop} (h : ∃ (yb : OA), ∃ (cc : Nat), ∃ (fc : Nat), ∃ (pb : OA), ∃ (wb : Nat), ∃ (rb : Nat), ∃ (ab : LN), ∃ (la : List LN), rdN H b 0 2 = some [.slice yb cc fc, .slice pb wb rb] ∧ IsL fF H yb cc ab ∧ IsLL fF H pb wb la ∧ ab.length < 1073741824 ∧ la.length < 1073741824 ∧ (∀ y ∈ la, y.length < 1073741824) ∧ K (p_f1az ab la) H) : T_f1az b H K := h
theorem f1az_t {a : LN} {ds : List LN} (h : p_f1az a ds = true) : 1 ≤ ds.length ∧ ds.length ≤ 6 ∧ 1 ≤ (ds.getD (0 : Int).toNat []).length ∧ (ds.getD (0 : Int).toNat []).length ≤ 64 := by
 rw [p_f1az_eq] at h
 by_cases h1 : (ds.length : Int) < 1
 ·rw [decide_eq_true h1] at h; cases h
 ·rw [decide_eq_false h1, cond_false] at h
  by_cases h2 : (6 : Int) < (ds.length : Int)
  ·rw [decide_eq_true h2] at h; cases h
  ·rw [decide_eq_false h2, cond_false] at h
   by_cases h3 : (64 : Int) < ((ds.getD (0 : Int).toNat []).length : Int)
   ·rw [decide_eq_true h3] at h; cases h
   ·rw [decide_eq_false h3, cond_false] at h
    cases h4 : p_f10z a
    ·rw [h4] at h; cases h
    ·rw [h4, Bool.not_true, cond_false] at h
     rw [p_f1az_l1_s, decide_eq_true (show (0 : Int) < (ds.length : Int) by omega), cond_true] at h
     by_cases h6 : ((ds.getD (0 : Int).toNat []).length : Int) < 1
     ·rw [decide_eq_true h6] at h; cases h
     ·exact ⟨by omega, by omega, by omega, by omega⟩
theorem l03Bands_go (a : LN) (ds : List LN) (hb : ∀ y ∈ ds, y.length < 1073741824) : ∀ (μ : Nat) (t : Bool) (i : Int), 0 ≤ i → i ≤ (ds.length : Int) → ((ds.length : Int) - i).toNat < μ → p_f1az_l1 a ds μ t i = true →
  (∀ j : Int, i ≤ j → j < (ds.length : Int) → 1 ≤ (ds.getD j.toNat []).length ∧ (0 < j → (ds.getD (j - 1).toNat []).length = 2 * (ds.getD j.toNat []).length)) ∧ a.length = (ds.getD ((ds.length : Int) - 1).toNat []).length := by
 intro μ
 induction μ with
 | zero => intro t i h0 h1 h2 h; omega
 | succ μ ih =>
  intro t i h0 h1 h2 h
  rw [p_f1az_l1_s] at h
  by_cases hi : i < (ds.length : Int)
  ·rw [decide_eq_true hi, cond_true] at h
   have hl := getD_len hb i.toNat
   by_cases c1 : ((ds.getD i.toNat []).length : Int) < 1
   ·rw [decide_eq_true c1] at h; cases h
   ·rw [decide_eq_false c1, cond_false] at h
    cases c2 : p_f10z (ds.getD i.toNat [])
    ·rw [c2] at h; cases h
    ·rw [c2, Bool.not_true, cond_false] at h
     by_cases c3 : 0 < i
     ·rw [decide_eq_true c3, cond_true] at h
      cases c4 : (((ds.getD (i - 1).toNat []).length : Int) != IntKind.wrap .i64 (2 * ((ds.getD i.toNat []).length : Int)))
      ·rw [c4, cond_false] at h
       have c4 := bne_eq_false_iff_eq.1 c4
       rw [wrap64 ω2 ω2] at c4
       obtain ⟨k1, k2⟩ := ih _ _ ω2 ω2 ω2 h
       refine ⟨fun j h5 h6 => ?_, k2⟩
       by_cases hj : j = i
       ·subst hj; exact ⟨by omega, fun _ => by omega⟩
       ·exact k1 j ω2 h6
      ·rw [c4] at h; cases h
     ·rw [decide_eq_false c3, cond_false] at h
      obtain ⟨k1, k2⟩ := ih _ _ ω2 ω2 ω2 h
      refine ⟨fun j h5 h6 => ?_, k2⟩
      by_cases hj : j = i
      ·subst hj; exact ⟨by omega, fun _ => by omega⟩
      ·exact k1 j ω2 h6
  ·rw [decide_eq_false hi, cond_false] at h
   exact ⟨fun j h5 h6 => by omega, by have := of_decide_eq_true h; omega⟩
theorem bands_rel {a : LN} {ds : List LN} (h : p_f1az a ds = true) (hb : ∀ y ∈ ds, y.length < 1073741824) : bandsRel a ds := by
 have h' := h
 obtain ⟨g1, g2, g3, g4⟩ := f1az_t h
 have hl : p_f1az_l1 a ds (Int.toNat ((ds.length : Int) - (0 : Int)) + 1) false (0 : Int) = true := by
  rw [p_f1az_eq] at h'
  revert h'
  refine cnb (P := fun r : Bool => r = true → _) (fun _ h => by cases h) (fun _ => ?_)
  refine cnb (P := fun r : Bool => r = true → _) (fun _ h => by cases h) (fun _ => ?_)
  refine cnb (P := fun r : Bool => r = true → _) (fun _ h => by cases h) (fun _ => ?_)
  refine cnb (P := fun r : Bool => r = true → _) (fun _ h => by cases h) (fun _ => ?_)
  exact id
 obtain ⟨k1, k2⟩ := l03Bands_go a ds hb _ _ _ ω2 ω2 ω2 hl
 have hn : ∀ n : Nat, (n : Int) < (ds.length : Int) → (ds.getD ((n : Int)).toNat []).length ≤ 64 := by
  intro n
  induction n with
  | zero => intro _; exact g4
  | succ n ih =>
   intro hn
   have := (k1 ((n + 1 : Nat) : Int) ω2 hn).2 ω2
   have e : (((n + 1 : Nat) : Int) - 1) = (n : Int) := by omega
   rw [e] at this
   have := ih ω2
   omega
 refine ⟨g1, g2, fun i h0 h1 => ⟨(k1 i h0 h1).1, ?_⟩, fun i h0 h1 => (k1 i ω2 h1).2 ω2, k2⟩
 have := hn i.toNat ω2
 rwa [Int.toNat_of_nonneg h0] at this
/-! f1az: function 112 -/
def E_f1az : Env := envOf [(104, S_f10z)]
def F_f1az : List Value → AHeap → (Value → AHeap → Prop) → Prop
 | [.pointer (some ⟨b, 0, none⟩)], H, K => T_f1az b H fun (r1 : Bool) (H' : AHeap) => K (.bool r1) H'
 | _, _, _ => False
def S_f1az : FSpec := { F := F_f1az, quiet := true, tame := false }
theorem f1az_vc (b : Nat) (H : AHeap) (K : Value → AHeap → Prop) : bodyL Try.prog E_f1az Try.f112 [.pointer (some ⟨b, 0, none⟩)] H K =
 (∃ sc : OA, ∃ bb : Nat, ∃ tc : Nat,  rdC H b 1 = some (.slice sc bb tc) ∧ Br (decide (((bb : Int) : Int) < 1)) (K (.bool false) H) (Br (decide ((6 : Int) < (bb : Int))) (K (.bool false) H) (∃ oe : OA, ∃ je : Nat, ∃ te : Nat,  rdC H b 1 = some (.slice oe je te) ∧ (0 : Int) ≤ 0 ∧ 0 < (je : Int) ∧ ∃ b1 f1, (oe : OA) = some ⟨b1, f1, none⟩ ∧ ∃ re : OA, ∃ zd : Nat, ∃ ue : Nat,  rdC H b1 (f1 + (0 : Int).toNat * 1) = some (.slice re zd ue) ∧ Br (decide ((64 : Int) < (zd : Int))) (K (.bool false) H) (∃ xg : OA, ∃ yg : Nat, ∃ zg : Nat,  rdC H b 0 = some (.slice xg yg zg) ∧ T_f10z xg yg zg H fun (r1 : Bool) (H1 : AHeap) => Br (!r1) (K (.bool false) H1) (∃ mh : OA, ∃ tf : Nat, ∃ di : Nat,  rdC H1 b 1 = some (.slice mh tf di) ∧ loopK (exL Try.prog E_f1az (cl (cl (cr (cl (cr (cr (cr (bodyC Try.f112)))))))) 824633720841 4 [(0, 9)]) (.pointer (some ⟨b, 0, none⟩) :: ud2 (.int .i64 (bb : Int) :: ud34 (.int .i64 (tf : Int) :: .int .i64 0 :: ud63 []))) H1 (blockQ 0 (seqQ (exL Try.prog E_f1az (cr (cr (cr (cr (bodyC Try.f112))))) 4 4 []) (retK Try.prog Try.f112 K)))))))) := by kernel_rfl
abbrev f1az_P1 (b : Nat) (bb : Nat) (tf : Nat) (t39 : Int)  : List Value := (.pointer (some ⟨b, 0, none⟩) :: ud2 (.int .i64 (bb : Int) :: ud34 (.int .i64 (tf : Int) :: .int .i64 t39 :: ud63 [])))
theorem f1az_r1 (b : Nat) (bb : Nat) (tf : Nat) (t39 : Int)  (H : AHeap) (R : Post) : exL Try.prog E_f1az (cl (cl (cr (cl (cr (cr (cr (bodyC Try.f112)))))))) 824633720841 4 [(0, 9)] (f1az_P1 b bb tf t39) H R =
 (Br (decide ((t39 : Int) < (tf : Int))) (∃ df : OA, ∃ se : Nat, ∃ uf : Nat,  rdC H b 1 = some (.slice df se uf) ∧ (0 : Int) ≤ t39 ∧ t39 < (se : Int) ∧ ∃ b2 f2, (df : OA) = some ⟨b2, f2, none⟩ ∧ ∃ ii : OA, ∃ nh : Nat, ∃ ji : Nat,  rdC H b2 (f2 + (t39 : Int).toNat * 1) = some (.slice ii nh ji) ∧ Br (decide (((nh : Int) : Int) < 1)) (R .ret (ud2 (.bool false :: ud100 [])) H) (∃ qi : OA, ∃ ri : Nat, ∃ dj : Nat,  rdC H b 1 = some (.slice qi ri dj) ∧ (0 : Int) ≤ t39 ∧ t39 < (ri : Int) ∧ ∃ b3 f3, (qi : OA) = some ⟨b3, f3, none⟩ ∧ ∃ ti : OA, ∃ si : Nat, ∃ ui : Nat,  rdC H b3 (f3 + (t39 : Int).toNat * 1) = some (.slice ti si ui) ∧ T_f10z ti si ui H fun (r2 : Bool) (H2 : AHeap) => Br (!r2) (R .ret (ud2 (.bool false :: ud100 [])) H2) (Br (decide ((0 : Int) < t39)) (∃ ei : OA, ∃ yh : Nat, ∃ ni : Nat,  rdC H2 b 1 = some (.slice ei yh ni) ∧ (0 : Int) ≤ IntKind.wrap .i64 (t39 - 1) ∧ IntKind.wrap .i64 (t39 - 1) < (yh : Int) ∧ ∃ b4 f4, (ei : OA) = some ⟨b4, f4, none⟩ ∧ ∃ fi : OA, ∃ zh : Nat, ∃ oi : Nat,  rdC H2 b4 (f4 + (IntKind.wrap .i64 (t39 - 1) : Int).toNat * 1) = some (.slice fi zh oi) ∧ ∃ gi : OA, ∃ ai : Nat, ∃ pi : Nat,  rdC H2 b 1 = some (.slice gi ai pi) ∧ (0 : Int) ≤ t39 ∧ t39 < (ai : Int) ∧ ∃ b5 f5, (gi : OA) = some ⟨b5, f5, none⟩ ∧ ∃ fj : OA, ∃ yi : Nat, ∃ gj : Nat,  rdC H2 b5 (f5 + (t39 : Int).toNat * 1) = some (.slice fj yi gj) ∧ Br (((zh : Int) : Int) != IntKind.wrap .i64 (2 * (yi : Int))) (R .ret (ud2 (.bool false :: ud100 [])) H2) (R .normal (.pointer (some ⟨b, 0, none⟩) :: ud2 (.int .i64 (bb : Int) :: ud34 (.int .i64 (tf : Int) :: .int .i64 (IntKind.wrap .i64 (t39 + 1)) :: ud63 []))) H2)) (R .normal (.pointer (some ⟨b, 0, none⟩) :: ud2 (.int .i64 (bb : Int) :: ud34 (.int .i64 (tf : Int) :: .int .i64 (IntKind.wrap .i64 (t39 + 1)) :: ud63 []))) H2)))) (R (.exit 0) (.pointer (some ⟨b, 0, none⟩) :: ud2 (.int .i64 (bb : Int) :: ud99 [])) H)) := by kernel_rfl
def f1az_I1 (b : Nat) (bb : Nat) (tf : Nat) (Inv : Nat → Int → AHeap → Prop) : Nat → List Value → AHeap → Prop := fun μ tm H => ∃ (t39 : Int), tm = (f1az_P1 b bb tf t39) ∧ Inv μ t39 H
theorem f1az_L1 (b : Nat) (bb : Nat) (tf : Nat) {Q : Post} (Inv : Nat → Int → AHeap → Prop) (ν : Nat) (t39 : Int)  (H : AHeap) (h0 : Inv ν t39 H)
  (hs : ∀ (μ : Nat) (t39 : Int)  (H : AHeap), Inv μ t39 H → exL Try.prog E_f1az (cl (cl (cr (cl (cr (cr (cr (bodyC Try.f112)))))))) 824633720841 4 [(0, 9)] (f1az_P1 b bb tf t39) H (loopQ (f1az_I1 b bb tf Inv) μ Q)) : loopK (exL Try.prog E_f1az (cl (cl (cr (cl (cr (cr (cr (bodyC Try.f112)))))))) 824633720841 4 [(0, 9)]) (f1az_P1 b bb tf t39) H Q :=
 ⟨f1az_I1 b bb tf Inv, ν, ⟨t39, rfl, h0⟩, fun μ tm H h => by obtain ⟨t39, rfl, hI⟩ := h; exact hs μ t39  H hI⟩
theorem f1az_n1 {b : Nat} {bb : Nat} {tf : Nat} {Q : Post} {Inv : Nat → Int → AHeap → Prop} {μ : Nat} (μ' : Nat) {t39 : Int}  {H : AHeap} (hm : μ' < μ) (hI : Inv μ' t39 H) : loopQ (f1az_I1 b bb tf Inv) μ Q .normal (f1az_P1 b bb tf t39) H := ⟨μ', hm, t39, rfl, hI⟩
theorem f1az_x1_0 (b : Nat) (bb : Nat) (H : AHeap) (K : Value → AHeap → Prop)  {I : Nat → List Value → AHeap → Prop} {μ : Nat} : loopQ I μ (blockQ 0 (seqQ (exL Try.prog E_f1az (cr (cr (cr (cr (bodyC Try.f112))))) 4 4 []) (retK Try.prog Try.f112 K))) (.exit 0) (.pointer (some ⟨b, 0, none⟩) :: ud2 (.int .i64 (bb : Int) :: ud99 [])) H =
 (∃ ij : OA, ∃ zi : Nat, ∃ jj : Nat,  rdC H b 0 = some (.slice ij zi jj) ∧ ∃ aj : OA, ∃ bj : Nat, ∃ kj : Nat,  rdC H b 1 = some (.slice aj bj kj) ∧ (0 : Int) ≤ IntKind.wrap .i64 ((bb : Int) - 1) ∧ IntKind.wrap .i64 ((bb : Int) - 1) < (bj : Int) ∧ ∃ b6 f6, (aj : OA) = some ⟨b6, f6, none⟩ ∧ ∃ lj : OA, ∃ cj : Nat, ∃ mj : Nat,  rdC H b6 (f6 + (IntKind.wrap .i64 ((bb : Int) - 1) : Int).toNat * 1) = some (.slice lj cj mj) ∧ K (.bool (((zi : Int) : Int) == (cj : Int))) H) := by kernel_rfl
theorem f1az_x1_ret (t2 : Bool) (H : AHeap) (K : Value → AHeap → Prop)  {I : Nat → List Value → AHeap → Prop} {μ : Nat} : loopQ I μ (blockQ 0 (seqQ (exL Try.prog E_f1az (cr (cr (cr (cr (bodyC Try.f112))))) 4 4 []) (retK Try.prog Try.f112 K))) .ret (ud2 (.bool t2 :: ud100 [])) H =
 (K (.bool t2) H) := by kernel_rfl
theorem E_f1az_ok : ∀ g, FnOk Try.prog g (E_f1az g) := FnOk.envOf (by
 intro x hx
 simp only [List.mem_cons, List.not_mem_nil, or_false] at hx
 subst hx; exact f10z_ok)
theorem f1az_main (b : Nat) (H : AHeap) (K : Value → AHeap → Prop) (h : T_f1az b H fun (r1 : Bool) (H' : AHeap) => K (.bool r1) H') : bodyL Try.prog E_f1az Try.f112 [.pointer (some ⟨b, 0, none⟩)] H K := by
 rw [f1az_vc]
 obtain ⟨yb, cc, fc, pb, wb, rb, ab, la, i_b, i_bp_Coarse, i_bp_Details, bd_67, bd_68, bb_l_bp_Details, hk⟩ := h
 obtain rfl := i_bp_Coarse.eqn
 obtain rfl := i_bp_Details.eqn
 have e : (p_f1az ab la) = _ := rfl
 have e := e.trans (p_f1az_eq ab la)
 have g0 := Grow.refl H
 refine ⟨pb, la.length, rb, (rdN_at (rdN_grow g0 i_b) 1 (Nat.le_of_ble_eq_true rfl)).trans rfl, ?_⟩
 refine Br.intro (fun c_1 => ?_) (fun c_1 => ?_)
 ·have e := e.trans (cond_t c_1)
  have c_1' := of_decide_eq_true c_1
  rw [e] at hk
  exact hk
 ·have e := e.trans (cond_f c_1)
  have c_1' := of_decide_eq_false c_1
  refine Br.intro (fun c_2 => ?_) (fun c_2 => ?_)
  ·have e := e.trans (cond_t c_2)
   have c_2' := of_decide_eq_true c_2
   rw [e] at hk
   exact hk
  ·have e := e.trans (cond_f c_2)
   have c_2' := of_decide_eq_false c_2
   refine ⟨pb, la.length, rb, (rdN_at (rdN_grow g0 i_b) 1 (Nat.le_of_ble_eq_true rfl)).trans rfl, ?_⟩
   obtain ⟨b_3, f_4, q_5⟩ := ((i_bp_Details.grow g0)).pos ω0
   refine ⟨by omega, by omega, b_3, f_4, q_5, ?_⟩
   obtain ⟨a_6, n7, e8, r_9, i10⟩ := (i_bp_Details).rd (i := (0 : Int).toNat) g0 q_5 ω2
   obtain rfl := i10.eqn
   refine ⟨a_6, _, e8, r_9, ?_⟩
   have z11 := getD_len bb_l_bp_Details (0 : Int).toNat
   refine Br.intro (fun c12 => ?_) (fun c12 => ?_)
   ·have e := e.trans (cond_t c12)
    have c_12' := of_decide_eq_true c12
    rw [e] at hk
    exact hk
   ·have e := e.trans (cond_f c12)
    have c_12' := of_decide_eq_false c12
    refine ⟨yb, ab.length, fc, (rdN_at (rdN_grow g0 i_b) 0 (Nat.le_of_ble_eq_true rfl)).trans rfl, ?_⟩
    refine T_f10z_i ⟨_, (i_bp_Coarse.grow g0), ω0, ?_⟩
    refine Br.intro (fun c13 => ?_) (fun c13 => ?_)
    ·have e := e.trans (cond_t c13)
     have c_13n := nf_of_t c13
     rw [e] at hk
     exact hk
    ·have e := e.trans (cond_f c13)
     have c_13n := nt_of_f c13
     refine ⟨pb, la.length, rb, (rdN_at (rdN_grow g0 i_b) 1 (Nat.le_of_ble_eq_true rfl)).trans rfl, ?_⟩
     refine f1az_L1 _ _ _ (fun (μ : Nat) (t39 : Int) (H_1 : AHeap) => ∃ (t2 : Bool), H = H_1 ∧ (0 : Int) ≤ t39 ∧ t39 ≤ (la.length : Int) ∧ (la.length : Int) - t39 ≤ (μ : Int) ∧ p_f1az ab la = p_f1az_l1 ab la (μ + 1) t2 t39) (Int.toNat ((la.length : Int) - (0 : Int))) _ H ?_ ?_
     ·exact ⟨_, rfl, ω7, ω7, ω2, e⟩
     ·intro μ t39  H_1 hI
      obtain ⟨t2, rfl, v14, v15, hμ, e⟩ := hI
      rw [f1az_r1]
      have e := e.trans (p_f1az_l1_s ab la μ t2 t39)
      have l16 := g0.1
      refine Br.intro (fun c17 => ?_) (fun c17 => ?_)
      ·have e := e.trans (cond_t c17)
       have c_17' := of_decide_eq_true c17
       refine ⟨pb, la.length, rb, (rdN_at (rdN_grow g0 i_b) 1 (Nat.le_of_ble_eq_true rfl)).trans rfl, ?_⟩
       obtain ⟨b_18, f19, q20⟩ := ((i_bp_Details.grow g0)).pos ω0
       refine ⟨by omega, by omega, b_18, f19, q20, ?_⟩
       obtain ⟨a21, n22, e23, r_24, i25⟩ := (i_bp_Details).rd (i := (t39 : Int).toNat) g0 q20 ω2
       obtain rfl := i25.eqn
       refine ⟨a21, _, e23, r_24, ?_⟩
       have z26 := getD_len bb_l_bp_Details (t39 : Int).toNat
       refine Br.intro (fun c27 => ?_) (fun c27 => ?_)
       ·have e := e.trans (cond_t c27)
        have c_27' := of_decide_eq_true c27
        rw [f1az_x1_ret]
        rw [e] at hk
        exact hk
       ·have e := e.trans (cond_f c27)
        have c_27' := of_decide_eq_false c27
        refine ⟨pb, la.length, rb, (rdN_at (rdN_grow g0 i_b) 1 (Nat.le_of_ble_eq_true rfl)).trans rfl, ?_⟩
        obtain ⟨b28, f29, q30⟩ := ((i_bp_Details.grow g0)).pos ω0
        refine ⟨by omega, by omega, b28, f29, q30, ?_⟩
        obtain ⟨a31, n32, e33, r_34, i35⟩ := (i_bp_Details).rd (i := (t39 : Int).toNat) g0 q30 ω2
        obtain rfl := i35.eqn
        refine ⟨a31, _, e33, r_34, ?_⟩
        have z36 := getD_len bb_l_bp_Details (t39 : Int).toNat
        refine T_f10z_i ⟨_, (i35.grow g0), ω0, ?_⟩
        refine Br.intro (fun c37 => ?_) (fun c37 => ?_)
        ·have e := e.trans (cond_t c37)
         have c_37n := nf_of_t c37
         rw [f1az_x1_ret]
         rw [e] at hk
         exact hk
        ·have e := e.trans (cond_f c37)
         have c_37n := nt_of_f c37
         refine Br.intro (fun c38 => ?_) (fun c38 => ?_)
         ·have e := e.trans (cond_t c38)
          have c_38' := of_decide_eq_true c38
          refine ⟨pb, la.length, rb, (rdN_at (rdN_grow g0 i_b) 1 (Nat.le_of_ble_eq_true rfl)).trans rfl, ?_⟩
          rw [show IntKind.wrap .i64 (t39 - 1) = (t39 - 1) from wrap64 ω2 ω2]
          obtain ⟨b39, f_40, q41⟩ := ((i_bp_Details.grow g0)).pos ω0
          refine ⟨by omega, by omega, b39, f_40, q41, ?_⟩
          obtain ⟨a42, n43, e44, r45, i46⟩ := (i_bp_Details).rd (i := ((t39 - 1) : Int).toNat) g0 q41 ω2
          obtain rfl := i46.eqn
          refine ⟨a42, _, e44, r45, ?_⟩
          have z47 := getD_len bb_l_bp_Details ((t39 - 1) : Int).toNat
          refine ⟨pb, la.length, rb, (rdN_at (rdN_grow g0 i_b) 1 (Nat.le_of_ble_eq_true rfl)).trans rfl, ?_⟩
          obtain ⟨b48, f49, q50⟩ := ((i_bp_Details.grow g0)).pos ω0
          refine ⟨by omega, by omega, b48, f49, q50, ?_⟩
          obtain ⟨a51, n52, e53, r54, i55⟩ := (i_bp_Details).rd (i := (t39 : Int).toNat) g0 q50 ω2
          obtain rfl := i55.eqn
          refine ⟨a51, _, e53, r54, ?_⟩
          have z56 := getD_len bb_l_bp_Details (t39 : Int).toNat
          refine Br.intro (fun c57 => ?_) (fun c57 => ?_)
          ·have e := e.trans (cond_t c57)
           have c_57' := ine_t c57
           rw [f1az_x1_ret]
           rw [e] at hk
           exact hk
          ·have e := e.trans (cond_f c57)
           have c_57' := ine_f c57
           rw [show IntKind.wrap .i64 (t39 + 1) = (t39 + 1) from wrap64 ω2 ω2]
           refine f1az_n1 (μ - 1) ω17 ⟨_, rfl, ω1, ω1, ω17, ω12⟩
         ·have e := e.trans (cond_f c38)
          have c_38' := of_decide_eq_false c38
          rw [show IntKind.wrap .i64 (t39 + 1) = (t39 + 1) from wrap64 ω2 ω2]
          refine f1az_n1 (μ - 1) ω17 ⟨_, rfl, ω1, ω1, ω17, ω12⟩
      ·have e := e.trans (cond_f c17)
       have c_17' := of_decide_eq_false c17
       rw [f1az_x1_0]
       refine ⟨yb, ab.length, fc, (rdN_at (rdN_grow g0 i_b) 0 (Nat.le_of_ble_eq_true rfl)).trans rfl, ?_⟩
       refine ⟨pb, la.length, rb, (rdN_at (rdN_grow g0 i_b) 1 (Nat.le_of_ble_eq_true rfl)).trans rfl, ?_⟩
       rw [show IntKind.wrap .i64 ((la.length : Int) - 1) = ((la.length : Int) - 1) from wrap64 ω2 ω2]
       obtain ⟨b58, f59, q60⟩ := ((i_bp_Details.grow g0)).pos ω0
       refine ⟨by omega, by omega, b58, f59, q60, ?_⟩
       obtain ⟨a61, n62, e63, r64, i65⟩ := (i_bp_Details).rd (i := (((la.length : Int) - 1) : Int).toNat) g0 q60 ω2
       obtain rfl := i65.eqn
       refine ⟨a61, _, e63, r64, ?_⟩
       have z66 := getD_len bb_l_bp_Details (((la.length : Int) - 1) : Int).toNat
       rw [e] at hk
       exact hk
theorem f1az_ok : FnOk Try.prog 112 S_f1az := by
 refine FnOk.body mix_ok E_f1az_ok Try.func112 rfl ω15 ω15 ?_ ?_ ?_ ?_ ?_
 ·intro args H K K' h hk
  simp only [S_f1az] at *
  unfold F_f1az at *
  split at hk
  ·obtain ⟨yb, cc, fc, pb, wb, rb, ab, la, i_b, i_bp_Coarse, i_bp_Details, bd_67, bd_68, bb_l_bp_Details, k⟩ := hk
   exact ⟨yb, cc, fc, pb, wb, rb, ab, la, i_b, i_bp_Coarse, i_bp_Details, bd_67, bd_68, bb_l_bp_Details, h _ _ k⟩
  ·exact hk.elim
 ·intro _ args H K hk
  simp only [S_f1az] at *
  unfold F_f1az at *
  split at hk
  ·obtain ⟨yb, cc, fc, pb, wb, rb, ab, la, i_b, i_bp_Coarse, i_bp_Details, bd_67, bd_68, bb_l_bp_Details, k⟩ := hk
   exact ⟨_, k, fun K' k' => ⟨yb, cc, fc, pb, wb, rb, ab, la, i_b, i_bp_Coarse, i_bp_Details, bd_67, bd_68, bb_l_bp_Details, k'⟩⟩
  ·exact hk.elim
 ·intro args H K hk
  simp only [S_f1az] at *
  unfold F_f1az at *
  split at hk
  ·obtain ⟨yb, cc, fc, pb, wb, rb, ab, la, i_b, i_bp_Coarse, i_bp_Details, bd_67, bd_68, bb_l_bp_Details, k⟩ := hk
   exact ⟨_, _, k⟩
  ·exact hk.elim
 ·intro hq; cases hq
 ·have mm := @f1az_main
  have ml := fun (args : List Value) (H : AHeap) (K : Value → AHeap → Prop) => bodyL_body (P := Try.prog) (env := E_f1az ) (fn := Try.f112) (args := args) (H := H) (K := K) E_f1az_ok 
  revert mm ml
  generalize bodyK Try.prog E_f1az Try.f112 = Q
  generalize bodyL Try.prog E_f1az Try.f112 = QL
  intro mm ml args H K hk
  simp only [S_f1az] at *
  unfold F_f1az at *
  split at hk
  ·exact ml _ H K (mm _ H K hk)
  ·exact hk.elim
def p_f1oz (x : Nat) : Nat := (bif fle .f32 x 0 then fsub .f32 0 x else x)
def T_f1oz (x : Nat) (H : AHeap) (K : Nat → AHeap → Prop) : Prop := K (p_f1oz x) H

theorem T_f1oz_i {x : Nat} {H : AHeap} {K : Nat → AHeap → Prop} (h : K (p_f1oz x) H) : T_f1oz x H K := h
/-! f1oz: function 201 -/
def E_f1oz : Env := envOf []
def F_f1oz : List Value → AHeap → (Value → AHeap → Prop) → Prop
 | [.float .f32 x], H, K => T_f1oz x H fun (r1 : Nat) (H' : AHeap) => K (.float .f32 r1) H'
 | _, _, _ => False
def S_f1oz : FSpec := { F := F_f1oz, quiet := true, tame := false }
theorem f1oz_vc (x : Nat) (H : AHeap) (K : Value → AHeap → Prop) : bodyL Try.prog E_f1oz Try.f201 [.float .f32 x] H K =
 (Br (fle .f32 x 0) (K (.float .f32 (fsub .f32 0 x)) H) (K (.float .f32 x) H)) := by kernel_rfl
theorem E_f1oz_ok : ∀ g, FnOk Try.prog g (E_f1oz g) := FnOk.envOf (by
 intro x hx; cases hx)
theorem f1oz_main (x : Nat) (H : AHeap) (K : Value → AHeap → Prop) (h : T_f1oz x H fun (r1 : Nat) (H' : AHeap) => K (.float .f32 r1) H') : bodyL Try.prog E_f1oz Try.f201 [.float .f32 x] H K := by
 rw [f1oz_vc]
 unfold T_f1oz p_f1oz at h
 repeat' (first | exact h | (exfalso; simp_all; done) | (refine ⟨by decide, ?_⟩) | (refine Br.intro (fun hb => ?_) (fun hb => ?_) <;> (try simp only [hb, cond_true, cond_false, Bool.not_true, Bool.not_false] at h)))
theorem f1oz_ok : FnOk Try.prog 201 S_f1oz := by
 refine FnOk.body mix_ok E_f1oz_ok Try.func201 rfl ω15 ω15 ?_ ?_ ?_ ?_ ?_
 ·intro args H K K' h hk
  simp only [S_f1oz] at *
  unfold F_f1oz at *
  split at hk
  ·have k := hk
   exact h _ _ k
  ·exact hk.elim
 ·intro _ args H K hk
  simp only [S_f1oz] at *
  unfold F_f1oz at *
  split at hk
  ·have k := hk
   exact ⟨_, k, fun K' k' => k'⟩
  ·exact hk.elim
 ·intro args H K hk
  simp only [S_f1oz] at *
  unfold F_f1oz at *
  split at hk
  ·have k := hk
   exact ⟨_, _, k⟩
  ·exact hk.elim
 ·intro hq; cases hq
 ·have mm := @f1oz_main
  have ml := fun (args : List Value) (H : AHeap) (K : Value → AHeap → Prop) => bodyL_body (P := Try.prog) (env := E_f1oz ) (fn := Try.f201) (args := args) (H := H) (K := K) E_f1oz_ok 
  revert mm ml
  generalize bodyK Try.prog E_f1oz Try.f201 = Q
  generalize bodyL Try.prog E_f1oz Try.f201 = QL
  intro mm ml args H K hk
  simp only [S_f1oz] at *
  unfold F_f1oz at *
  split at hk
  ·exact ml _ H K (mm _ H K hk)
  ·exact hk.elim

def p_f1cz_l1 (aa : LN) (m : Nat) : Nat → LN → Int → LN
 | 0, _, _ => []
 | μ + 1, lb, t10 => (bif decide ((t10 : Int) < (aa.length : Int)) then (p_f1cz_l1 aa m μ ((lb ++ [((p_f1oz (fsub .f32 (((aa).getD (t10 : Int).toNat 0)) m)))])) (t10 + 1)) else lb)
def p_f1cz_l1_s := fun aa m μ lb t10 => @p_f1cz_l1.eq_2 aa m lb t10 μ
def p_f1cz (aa : LN) (m : Nat) : LN := (p_f1cz_l1 aa m (Int.toNat ((aa.length : Int) - (0 : Int)) + 1) ([] : LN) (0 : Int))
def p_f1cz_eq := @p_f1cz.eq_1
def T_f1cz (ea : OA) (da : Nat) (ga : Nat) (m : Nat) (H : AHeap) (K : OA → Nat → Nat → AHeap → Prop) : Prop := ∃ (aa : LN), IsL fF H ea da aa ∧ aa.length < 1073741824 ∧ ((∀ (ib : OA) (kb jb : Nat), ∀ H' : AHeap, Grow H H' → OwnS fF H' H.length ib kb jb (p_f1cz aa m) → K ib kb jb H'))
theorem T_f1cz_i {ea : OA} {da : Nat} {ga : Nat} {m : Nat} {H : AHeap} {K : OA → Nat → Nat → AHeap → Prop} (h : ∃ (aa : LN), IsL fF H ea da aa ∧ aa.length < 1073741824 ∧ ((∀ (ib : OA) (kb jb : Nat), ∀ H' : AHeap, Grow H H' → OwnS fF H' H.length ib kb jb (p_f1cz aa m) → K ib kb jb H'))) : T_f1cz ea da ga m H K := h
theorem l05Sizes_go (l : LN) (m : Nat) : ∀ (μ : Nat) (i : Nat) (o : LN), l.length - i < μ → p_f1cz_l1 l m μ o (i : Int) = o ++ (l.drop i).map fun x => p_f1oz (fsub .f32 x m) := by
 intro μ
 induction μ with
 | zero => intro i o h; omega
 | succ μ ih =>
  intro i o hm
  rw [p_f1cz_l1_s]
  by_cases h : i < l.length
  ·rw [decide_eq_true (show (i : Int) < (l.length : Int) by omega), cond_true, Int.toNat_natCast]
   have := ih (i + 1) (o ++ [p_f1oz (fsub .f32 (l.getD i 0) m)]) ω2
   rw [show ((i + 1 : Nat) : Int) = (i : Int) + 1 by omega] at this
   rw [this, List.drop_eq_getElem_cons h, List.map_cons, List.getD_eq_getElem?_getD, List.getElem?_eq_getElem h, Option.getD_some, List.append_assoc]; rfl
  ·rw [decide_eq_false (show ¬ (i : Int) < (l.length : Int) by omega), cond_false, List.drop_eq_nil_of_le ω2]; simp
theorem l05Sizes_map (l : LN) (m : Nat) : p_f1cz l m = l.map fun x => p_f1oz (fsub .f32 x m) := by
 rw [p_f1cz_eq]
 have := l05Sizes_go l m (Int.toNat ((l.length : Int) - (0 : Int)) + 1) 0 [] ω2
 simpa using this
theorem l05Sizes_len (l : LN) (m : Nat) : (p_f1cz l m).length = l.length := by rw [l05Sizes_map, List.length_map]
/-! f1cz: function 172 -/
def E_f1cz : Env := envOf [(201, S_f1oz)]
def F_f1cz : List Value → AHeap → (Value → AHeap → Prop) → Prop
 | [.slice ea da ga, .float .f32 m], H, K => T_f1cz ea da ga m H fun (ib : OA) (kb : Nat) (jb : Nat) (H' : AHeap) => K (.slice ib kb jb) H'
 | _, _, _ => False
def S_f1cz : FSpec := { F := F_f1cz, quiet := false, tame := true }
theorem f1cz_vc (ea : OA) (da : Nat) (ga : Nat) (m : Nat) (H : AHeap) (K : Value → AHeap → Prop) : bodyL Try.prog E_f1cz Try.f172 [.slice ea da ga, .float .f32 m] H K =
 (Al [] H fun b1 H1 => loopK (exL Try.prog E_f1cz (cl (cl (cr (cl (cr (cr (bodyC Try.f172))))))) 1571 16 [(0, 32)]) (.slice ea da ga :: .float .f32 m :: ud3 (.slice (some ⟨b1, 0, none⟩) 0 1 :: ud3 (.int .i64 (da : Int) :: .int .i64 0 :: ud14 []))) H1 (blockQ 0 (seqQ (exL Try.prog E_f1cz (cr (cr (cr (bodyC Try.f172)))) 16 16 []) (retK Try.prog Try.f172 K)))) := by kernel_rfl
abbrev f1cz_P1 (ea : OA) (ga : Nat) (da : Nat) (m : Nat) (oa : OA) (na : Nat) (pa : Nat) (t10 : Int)  : List Value := (.slice ea da ga :: .float .f32 m :: ud3 (.slice oa na pa :: ud3 (.int .i64 (da : Int) :: .int .i64 t10 :: ud14 [])))
theorem f1cz_r1 (ea : OA) (ga : Nat) (da : Nat) (m : Nat) (oa : OA) (na : Nat) (pa : Nat) (t10 : Int)  (H : AHeap) (R : Post) : exL Try.prog E_f1cz (cl (cl (cr (cl (cr (cr (bodyC Try.f172))))))) 1571 16 [(0, 32)] (f1cz_P1 ea ga da m oa na pa t10) H R =
 (Br (decide ((t10 : Int) < (da : Int))) ((0 : Int) ≤ t10 ∧ t10 < (da : Int) ∧ ∃ b2 f1, (ea : OA) = some ⟨b2, f1, none⟩ ∧ ∃ x1 : Nat,  rdC H b2 (f1 + (t10 : Int).toNat * 1) = some (.float .f32 x1) ∧ T_f1oz (fsub .f32 x1 m) H fun (r1 : Nat) (H2 : AHeap) => Al [.float .f32 r1] H2 fun b3 H3 => ∃ o1 w1 : List Value, ownB H3 oa na pa 1 = some o1 ∧ rdS H3 (some ⟨b3, 0, none⟩) (1 * 1) = some w1 ∧ ((oa : OA) = none → 0 < (1 : Nat)) ∧ (na : Nat) + 1 < most ∧ Ap H3 (killB H3 oa ++ [some ⟨o1 ++ w1, true⟩]) fun b4 H4 => R .normal (.slice ea da ga :: .float .f32 m :: ud3 (.slice (some ⟨b4, 0, none⟩) (na + 1) 1 :: ud3 (.int .i64 (da : Int) :: .int .i64 (IntKind.wrap .i64 (t10 + 1)) :: ud14 []))) H4) (R (.exit 0) (ud5 (.slice oa na pa :: ud19 [])) H)) := by kernel_rfl
def f1cz_I1 (ea : OA) (ga : Nat) (da : Nat) (m : Nat) (Inv : Nat → OA → Nat → Nat → Int → AHeap → Prop) : Nat → List Value → AHeap → Prop := fun μ tm H => ∃ (oa : OA), ∃ (na : Nat), ∃ (pa : Nat), ∃ (t10 : Int), tm = (f1cz_P1 ea ga da m oa na pa t10) ∧ Inv μ oa na pa t10 H
theorem f1cz_L1 (ea : OA) (ga : Nat) (da : Nat) (m : Nat) {Q : Post} (Inv : Nat → OA → Nat → Nat → Int → AHeap → Prop) (ν : Nat) (oa : OA) (na : Nat) (pa : Nat) (t10 : Int)  (H : AHeap) (h0 : Inv ν oa na pa t10 H)
  (hs : ∀ (μ : Nat) (oa : OA) (na : Nat) (pa : Nat) (t10 : Int)  (H : AHeap), Inv μ oa na pa t10 H → exL Try.prog E_f1cz (cl (cl (cr (cl (cr (cr (bodyC Try.f172))))))) 1571 16 [(0, 32)] (f1cz_P1 ea ga da m oa na pa t10) H (loopQ (f1cz_I1 ea ga da m Inv) μ Q)) : loopK (exL Try.prog E_f1cz (cl (cl (cr (cl (cr (cr (bodyC Try.f172))))))) 1571 16 [(0, 32)]) (f1cz_P1 ea ga da m oa na pa t10) H Q :=
 ⟨f1cz_I1 ea ga da m Inv, ν, ⟨oa, na, pa, t10, rfl, h0⟩, fun μ tm H h => by obtain ⟨oa, na, pa, t10, rfl, hI⟩ := h; exact hs μ oa na pa t10  H hI⟩
theorem f1cz_n1 {ea : OA} {ga : Nat} {da : Nat} {m : Nat} {Q : Post} {Inv : Nat → OA → Nat → Nat → Int → AHeap → Prop} {μ : Nat} (μ' : Nat) {oa : OA} {na : Nat} {pa : Nat} {t10 : Int}  {H : AHeap} (hm : μ' < μ) (hI : Inv μ' oa na pa t10 H) : loopQ (f1cz_I1 ea ga da m Inv) μ Q .normal (f1cz_P1 ea ga da m oa na pa t10) H := ⟨μ', hm, oa, na, pa, t10, rfl, hI⟩
theorem f1cz_x1_0 (oa : OA) (na : Nat) (pa : Nat) (H : AHeap) (K : Value → AHeap → Prop)  {I : Nat → List Value → AHeap → Prop} {μ : Nat} : loopQ I μ (blockQ 0 (seqQ (exL Try.prog E_f1cz (cr (cr (cr (bodyC Try.f172)))) 16 16 []) (retK Try.prog Try.f172 K))) (.exit 0) (ud5 (.slice oa na pa :: ud19 [])) H =
 (K (.slice oa na pa) H) := by kernel_rfl
theorem E_f1cz_ok : ∀ g, FnOk Try.prog g (E_f1cz g) := FnOk.envOf (by
 intro x hx
 simp only [List.mem_cons, List.not_mem_nil, or_false] at hx
 subst hx; exact f1oz_ok)
theorem f1cz_main (ea : OA) (da : Nat) (ga : Nat) (m : Nat) (H : AHeap) (K : Value → AHeap → Prop) (h : T_f1cz ea da ga m H fun (ib : OA) (kb : Nat) (jb : Nat) (H' : AHeap) => K (.slice ib kb jb) H') : bodyL Try.prog E_f1cz Try.f172 [.slice ea da ga, .float .f32 m] H K := by
 rw [f1cz_vc]
 obtain ⟨aa, i_list, bd_48, hk⟩ := h
 obtain rfl := i_list.eqn
 have e : (p_f1cz aa m) = _ := rfl
 have e := e.trans (p_f1cz_eq aa m)
 have g0 := Grow.refl H
 refine Al.intro (fun b_1 H_1 hb_2 hl_3 g_4 o_5 => ?_)
 have o_5 : Own H_1 b_1 ((([] : LN)).map fF) := o_5
 have l7 := g_4.1
 have g8 := g0.trans g_4
 have l9 := g8.1
 have w47 := o_5.lt
 refine f1cz_L1 _ _ _ _ (fun (μ : Nat) (oa : OA) (na : Nat) (pa : Nat) (t10 : Int) (H_2 : AHeap) => ∃ (lb : LN), ∃ (b_10 : Nat), oa = some ⟨b_10, 0, none⟩ ∧ na = lb.length ∧ pa = 1 ∧ Own H_2 b_10 (lb.map fF) ∧ Grow H H_2 ∧ H.length ≤ b_10 ∧ (0 : Int) ≤ t10 ∧ t10 ≤ (aa.length : Int) ∧ (lb.length : Int) ≤ t10 - (0 : Int) + 0 ∧ (aa.length : Int) - t10 ≤ (μ : Int) ∧ p_f1cz aa m = p_f1cz_l1 aa m (μ + 1) lb t10) (Int.toNat ((aa.length : Int) - (0 : Int))) _ _ _ _ H_1 ?_ ?_
 ·exact ⟨_, _, rfl, ω10, rfl, o_5, g8, ω2, ω7, ω7, ω7, ω2, e⟩
 ·intro μ oa na pa t10  H_2 hI
  obtain ⟨lb, b_10, rfl, rfl, rfl, o11, g12, l13, v14, v15, v16, hμ, e⟩ := hI
  rw [f1cz_r1]
  have e := e.trans (p_f1cz_l1_s aa m μ lb t10)
  have w17 := o11.lt
  have l18 := g12.1
  refine Br.intro (fun c19 => ?_) (fun c19 => ?_)
  ·have e := e.trans (cond_t c19)
   have c_19' := of_decide_eq_true c19
   obtain ⟨b20, f21, q22⟩ := ((i_list.grow g12)).pos ω0
   refine ⟨by omega, by omega, b20, f21, q22, ?_⟩
   refine ⟨((aa).getD (t10 : Int).toNat 0), (i_list).rd g12 q22 ω2 _, ?_⟩
   refine T_f1oz_i ?_
   refine Al.intro (fun b23 H_3 hb_24 hl_25 g26 o27 => ?_)
   have o27 : Own H_3 b23 (([((p_f1oz (fsub .f32 (((aa).getD (t10 : Int).toNat 0)) m)))]).map fF) := o27
   have l29 := g26.1
   have g30 := g12.trans g26
   have l31 := g30.1
   have o32 := o11.grow g26
   have w33 := o32.lt
   have w46 := o27.lt
   refine ⟨_, _, o32.ownB ω5 rfl, (isl_rdS (o27.isL ω10)), (fun h => by cases h), ω24, ?_⟩
   refine Ap.app o32 rfl rfl (fun b38 H_4 q44 hl_34 o35 k36 => ?_)
   have o35 := map_snoc o35
   have l39 := k36.1
   have g40 := g30.keep (b := b_10) ω2 k36
   have l41 := g40.1
   have o42 := o27.keep ω2 k36
   have w43 := o42.lt
   have w45 := o35.lt
   rw [show IntKind.wrap .i64 (t10 + 1) = (t10 + 1) from wrap64 ω2 ω2]
   refine f1cz_n1 (μ - 1) ω17 ⟨_, _, rfl, ω8, rfl, o35, g40, ω2, ω1, ω1, ω1, ω17, ω12⟩
  ·have e := e.trans (cond_f c19)
   have c_19' := of_decide_eq_false c19
   rw [f1cz_x1_0]
   rw [e] at hk
   exact hk _ _ _ H_2 g12 (o11.ownS ω10 ω2)
theorem f1cz_ok : FnOk Try.prog 172 S_f1cz := by
 refine FnOk.body mix_ok E_f1cz_ok Try.func172 rfl ω15 ω15 ?_ ?_ ?_ ?_ ?_
 ·intro args H K K' h hk
  simp only [S_f1cz] at *
  unfold F_f1cz at *
  split at hk
  ·obtain ⟨aa, i_list, bd_48, k⟩ := hk
   exact ⟨aa, i_list, bd_48, (fun ib kb jb H' gg ow0 => h _ _ (k ib kb jb H' gg ow0))⟩
  ·exact hk.elim
 ·intro hq; cases hq
 ·intro args H K hk
  simp only [S_f1cz] at *
  unfold F_f1cz at *
  split at hk
  ·obtain ⟨aa, i_list, bd_48, k⟩ := hk
   exact liveS fun a n e H1 g o => ⟨_, _, k a n e H1 g o⟩
  ·exact hk.elim
 ·intro _ args H K hk
  simp only [S_f1cz] at *
  unfold F_f1cz at *
  split at hk
  ·obtain ⟨aa, i_list, bd_48, k⟩ := hk
   exact ⟨aa, i_list, bd_48, (fun ib kb jb H' gg ow0 => ⟨gg, k ib kb jb H' gg ow0⟩)⟩
  ·exact hk.elim
 ·have mm := @f1cz_main
  have ml := fun (args : List Value) (H : AHeap) (K : Value → AHeap → Prop) => bodyL_body (P := Try.prog) (env := E_f1cz ) (fn := Try.f172) (args := args) (H := H) (K := K) E_f1cz_ok 
  revert mm ml
  generalize bodyK Try.prog E_f1cz Try.f172 = Q
  generalize bodyL Try.prog E_f1cz Try.f172 = QL
  intro mm ml args H K hk
  simp only [S_f1cz] at *
  unfold F_f1cz at *
  split at hk
  ·exact ml _ H K (mm _ _ _ _ H K hk)
  ·exact hk.elim

def p_f15z_l2 (aa : LN) (lb : LN) (t11 : Int) (k2_2 : LN → Bool → Int → LN) : Nat → LN → Bool → Int → LN
 | 0, _, _, _ => []
 | μ2 + 1, de, put, t17 => (bif decide ((t17 : Int) < (lb.length : Int)) then (bif !put then (bif flt .f32 (((aa).getD (t11 : Int).toNat 0)) (((lb).getD (t17 : Int).toNat 0)) then (p_f15z_l2 aa lb t11 k2_2 μ2 (((de ++ [(((aa).getD (t11 : Int).toNat 0))]) ++ [(((lb).getD (t17 : Int).toNat 0))])) true (t17 + 1)) else (p_f15z_l2 aa lb t11 k2_2 μ2 ((de ++ [(((lb).getD (t17 : Int).toNat 0))])) put (t17 + 1))) else (p_f15z_l2 aa lb t11 k2_2 μ2 ((de ++ [(((lb).getD (t17 : Int).toNat 0))])) put (t17 + 1))) else (k2_2 de put t17))
def p_f15z_l2_s := fun aa lb t11 k2_2 μ2 de put t17 => @p_f15z_l2.eq_2 aa lb t11 k2_2 de put t17 μ2
def p_f15z_l1 (aa : LN) : Nat → LN → Int → LN
 | 0, _, _ => []
 | μ + 1, lb, t11 => (bif decide ((t11 : Int) < (aa.length : Int)) then (p_f15z_l2 aa lb t11 (fun (de : LN) (put : Bool) (t17 : Int) => (bif !put then (p_f15z_l1 aa μ ((de ++ [(((aa).getD (t11 : Int).toNat 0))])) (t11 + 1)) else (p_f15z_l1 aa μ de (t11 + 1)))) (Int.toNat ((lb.length : Int) - (0 : Int)) + 1) ([] : LN) false (0 : Int)) else lb)
def p_f15z_l1_s := fun aa μ lb t11 => @p_f15z_l1.eq_2 aa lb t11 μ
def p_f15z (aa : LN) : LN := (p_f15z_l1 aa (Int.toNat ((aa.length : Int) - (0 : Int)) + 1) ([] : LN) (0 : Int))
def p_f15z_eq := @p_f15z.eq_1
def T_f15z (ea : OA) (da : Nat) (ga : Nat) (H : AHeap) (K : OA → Nat → Nat → AHeap → Prop) : Prop := ∃ (aa : LN), IsL fF H ea da aa ∧ aa.length < 1073741824 ∧ ((∀ (ib : OA) (kb jb : Nat), ∀ H' : AHeap, Grow H H' → OwnS fF H' H.length ib kb jb (p_f15z aa) → K ib kb jb H'))
theorem T_f15z_i {ea : OA} {da : Nat} {ga : Nat} {H : AHeap} {K : OA → Nat → Nat → AHeap → Prop} (h : ∃ (aa : LN), IsL fF H ea da aa ∧ aa.length < 1073741824 ∧ ((∀ (ib : OA) (kb jb : Nat), ∀ H' : AHeap, Grow H H' → OwnS fF H' H.length ib kb jb (p_f15z aa) → K ib kb jb H'))) : T_f15z ea da ga H K := h
def sins (x : Nat) : LN → LN
 | [] => [x]
 | y :: r => bif flt .f32 x y then x :: y :: r else y :: sins x r
theorem sins_length (x : Nat) : ∀ l : LN, (sins x l).length = l.length + 1
 | [] => rfl
 | y :: r => by
  unfold sins
  cases flt .f32 x y
  ·rw [cond_false, List.length_cons, sins_length x r, List.length_cons]
  ·rw [cond_true]; rfl
theorem l05Sorted_in2 (l out : LN) (t : Int) (k : LN → Bool → Int → LN) (g : LN → LN) (hk : ∀ n j, k n true j = g n) : ∀ (μ : Nat) (i : Nat) (next : LN), out.length - i < μ →
  p_f15z_l2 l out t k μ next true (i : Int) = g (next ++ out.drop i) := by
 intro μ
 induction μ with
 | zero => intro i next h; omega
 | succ μ ih =>
  intro i next hm
  rw [p_f15z_l2_s]
  by_cases h : i < out.length
  ·rw [decide_eq_true (show (i : Int) < (out.length : Int) by omega), cond_true, Bool.not_true, cond_false, Int.toNat_natCast]
   have := ih (i + 1) (next ++ [out.getD i 0]) ω2
   rw [show ((i + 1 : Nat) : Int) = (i : Int) + 1 by omega] at this
   rw [this, List.drop_eq_getElem_cons h, List.getD_eq_getElem?_getD, List.getElem?_eq_getElem h, Option.getD_some, List.append_assoc]; rfl
  ·rw [decide_eq_false (show ¬ (i : Int) < (out.length : Int) by omega), cond_false, hk, List.drop_eq_nil_of_le ω2, List.append_nil]
theorem l05Sorted_in (l out : LN) (t : Int) (k : LN → Bool → Int → LN) (g : LN → LN) (hk : ∀ n j, k n true j = g n) (hk2 : ∀ n j, k n false j = g (n ++ [l.getD t.toNat 0])) : ∀ (μ : Nat) (i : Nat) (next : LN), out.length - i < μ →
  p_f15z_l2 l out t k μ next false (i : Int) = g (next ++ sins (l.getD t.toNat 0) (out.drop i)) := by
 intro μ
 induction μ with
 | zero => intro i next h; omega
 | succ μ ih =>
  intro i next hm
  rw [p_f15z_l2_s]
  by_cases h : i < out.length
  ·rw [decide_eq_true (show (i : Int) < (out.length : Int) by omega), cond_true, Bool.not_false, cond_true, Int.toNat_natCast]
   have e1 : out.getD i 0 = out[i] := by rw [List.getD_eq_getElem?_getD, List.getElem?_eq_getElem h, Option.getD_some]
   rw [List.drop_eq_getElem_cons h, e1]
   unfold sins
   cases flt .f32 (l.getD t.toNat 0) out[i]
   ·rw [cond_false, cond_false]
    have := ih (i + 1) (next ++ [out[i]]) ω2
    rw [show ((i + 1 : Nat) : Int) = (i : Int) + 1 by omega] at this
    rw [this, List.append_assoc]; rfl
   ·rw [cond_true, cond_true]
    have := l05Sorted_in2 l out t k g hk μ (i + 1) (next ++ [l.getD t.toNat 0] ++ [out[i]]) ω2
    rw [show ((i + 1 : Nat) : Int) = (i : Int) + 1 by omega] at this
    rw [this, List.append_assoc, List.append_assoc]; rfl
  ·rw [decide_eq_false (show ¬ (i : Int) < (out.length : Int) by omega), cond_false, hk2, List.drop_eq_nil_of_le ω2]; rfl
theorem l05Sorted_out (l : LN) : ∀ (μ : Nat) (i : Nat) (out : LN), l.length - i < μ → p_f15z_l1 l μ out (i : Int) = (l.drop i).foldl (fun o x => sins x o) out := by
 intro μ
 induction μ with
 | zero => intro i out h; omega
 | succ μ ih =>
  intro i out hm
  rw [p_f15z_l1_s]
  by_cases h : i < l.length
  ·rw [decide_eq_true (show (i : Int) < (l.length : Int) by omega), cond_true]
   have := l05Sorted_in l out i (g := fun n => p_f15z_l1 l μ n ((i : Int) + 1)) (k := fun (de : LN) (put : Bool) (t17 : Int) => (bif !put then (p_f15z_l1 l μ ((de ++ [(((l).getD ((i : Int) : Int).toNat 0))])) ((i : Int) + 1)) else (p_f15z_l1 l μ de ((i : Int) + 1))))
    (fun n j => by rw [Bool.not_true, cond_false]) (fun n j => by rw [Bool.not_false, cond_true]) (Int.toNat ((out.length : Int) - (0 : Int)) + 1) 0 [] ω2
   refine Eq.trans this ?_
   have h2 := ih (i + 1) ([] ++ sins (l.getD (i : Int).toNat 0) (out.drop 0)) ω2
   rw [show ((i + 1 : Nat) : Int) = (i : Int) + 1 by omega] at h2
   rw [h2, List.drop_eq_getElem_cons h, List.foldl_cons, List.drop_zero, List.nil_append, Int.toNat_natCast, List.getD_eq_getElem?_getD, List.getElem?_eq_getElem h, Option.getD_some]
  ·rw [decide_eq_false (show ¬ (i : Int) < (l.length : Int) by omega), cond_false, List.drop_eq_nil_of_le ω2]; rfl
theorem l05Sorted_fold (l : LN) : p_f15z l = l.foldl (fun o x => sins x o) [] := by
 rw [p_f15z_eq]
 have := l05Sorted_out l (Int.toNat ((l.length : Int) - (0 : Int)) + 1) 0 [] ω2
 simpa using this
theorem fold_sins_length : ∀ (l out : LN), (l.foldl (fun o x => sins x o) out).length = out.length + l.length
 | [], out => rfl
 | x :: l, out => by rw [List.foldl_cons, fold_sins_length l, sins_length, List.length_cons]; omega
theorem l05Sorted_len (l : LN) : (p_f15z l).length = l.length := by rw [l05Sorted_fold, fold_sins_length]; simp
theorem sins_split {x : Nat} (hx : (FloatKind.f32.format.read x).isNaN = false) : ∀ (out : LN), So.Asc kappa out → (∀ y ∈ out, (FloatKind.f32.format.read y).isNaN = false) →
  ∃ A B, out = A ++ B ∧ sins x out = A ++ [x] ++ B ∧ (∀ y ∈ A, kappa y ≤ kappa x) ∧ ∀ y ∈ B, kappa x < kappa y := by
 intro out
 induction out with
 | nil => intro _ _; exact ⟨[], [], rfl, rfl, by simp, by simp⟩
 | cons y r ih =>
  intro ha hn
  unfold sins
  rw [flt_kappa hx (hn y (by simp))]
  by_cases h : kappa x < kappa y
  ·rw [decide_eq_true h, cond_true]
   refine ⟨[], y :: r, rfl, rfl, by simp, fun z hz => ?_⟩
   rcases List.mem_cons.1 hz with e | hz
   ·rw [e]; exact h
   ·have := (List.pairwise_cons.1 ha).1 z hz; omega
  ·rw [decide_eq_false h, cond_false]
   obtain ⟨A, B, e1, e2, h1, h2⟩ := ih (List.pairwise_cons.1 ha).2 (fun z hz => hn z (by simp [hz]))
   refine ⟨y :: A, B, by rw [e1]; rfl, by rw [e2]; rfl, fun z hz => ?_, h2⟩
   rcases List.mem_cons.1 hz with e | hz
   ·rw [e]; omega
   ·exact h1 z hz
theorem fold_sins_ss : ∀ (l pre out : LN), (∀ y ∈ pre ++ l, (FloatKind.f32.format.read y).isNaN = false) → So.SS kappa pre out → So.SS kappa (pre ++ l) (l.foldl (fun o x => sins x o) out)
 | [], pre, out, _, h => by simpa using h
 | x :: l, pre, out, hn, h => by
  rw [List.foldl_cons, show pre ++ x :: l = (pre ++ [x]) ++ l by simp]
  refine fold_sins_ss l (pre ++ [x]) (sins x out) (by simpa using hn) ?_
  obtain ⟨A, B, e1, e2, h1, h2⟩ := sins_split (hn x (by simp)) out h.asc (fun y hy => hn y (List.mem_append_left _ ((h.stab.mem y).1 hy)))
  have := So.SS.insert (κ := kappa) (A := A) (B := B) (x := x) (by rw [← e1]; exact h.asc) h1 h2
  rw [e2]
  refine So.SS.behind ?_ this
  rw [← e1]
  exact h.stab.app (So.Stab.refl [x])
theorem l05Sorted_ss (l : LN) (h : ∀ y ∈ l, (FloatKind.f32.format.read y).isNaN = false) : So.SS kappa l (p_f15z l) := by
 rw [l05Sorted_fold]
 have := fold_sins_ss l [] [] (by simpa using h) (So.SS.refl So.Asc.nil)
 simpa using this
/-! f15z: function 200 -/
def E_f15z : Env := envOf []
def F_f15z : List Value → AHeap → (Value → AHeap → Prop) → Prop
 | [.slice ea da ga], H, K => T_f15z ea da ga H fun (ib : OA) (kb : Nat) (jb : Nat) (H' : AHeap) => K (.slice ib kb jb) H'
 | _, _, _ => False
def S_f15z : FSpec := { F := F_f15z, quiet := false, tame := true }
theorem f15z_vc (ea : OA) (da : Nat) (ga : Nat) (H : AHeap) (K : Value → AHeap → Prop) : bodyL Try.prog E_f15z Try.f200 [.slice ea da ga] H K =
 (Al [] H fun b1 H1 => loopK (exL Try.prog E_f15z (cl (cl (cr (cl (cr (cr (bodyC Try.f200))))))) 3081 4 [(0, 8)]) (.slice ea da ga :: ud2 (.slice (some ⟨b1, 0, none⟩) 0 1 :: ud6 (.int .i64 (da : Int) :: .int .i64 0 :: ud48 []))) H1 (blockQ 0 (seqQ (exL Try.prog E_f15z (cr (cr (cr (bodyC Try.f200)))) 4 4 []) (retK Try.prog Try.f200 K)))) := by kernel_rfl
abbrev f15z_P1 (ea : OA) (ga : Nat) (da : Nat) (oa : OA) (na : Nat) (pa : Nat) (t11 : Int)  : List Value := (.slice ea da ga :: ud2 (.slice oa na pa :: ud6 (.int .i64 (da : Int) :: .int .i64 t11 :: ud48 [])))
theorem f15z_r1 (ea : OA) (ga : Nat) (da : Nat) (oa : OA) (na : Nat) (pa : Nat) (t11 : Int)  (H : AHeap) (R : Post) : exL Try.prog E_f15z (cl (cl (cr (cl (cr (cr (bodyC Try.f200))))))) 3081 4 [(0, 8)] (f15z_P1 ea ga da oa na pa t11) H R =
 (Br (decide ((t11 : Int) < (da : Int))) (Al [] H fun b2 H2 => loopK (exL Try.prog E_f15z (cl (cl (cr (cl (cr (cr (cr (cl (cl (cr (cr (cl (cl (cr (cl (cr (cr (bodyC Try.f200)))))))))))))))))) 199801 4 [(2, 3185), (1, 3081), (0, 8)]) (.slice ea da ga :: ud2 (.slice oa na pa :: .int .i64 t11 :: .slice (some ⟨b2, 0, none⟩) 0 1 :: .bool false :: ud3 (.int .i64 (da : Int) :: .int .i64 t11 :: ud4 (.int .i64 (na : Int) :: .int .i64 0 :: ud42 [])))) H2 (blockQ 2 (seqQ (exL Try.prog E_f15z (cr (cr (cr (cr (cl (cl (cr (cr (cl (cl (cr (cl (cr (cr (bodyC Try.f200))))))))))))))) 3081 4 [(1, 3081), (0, 8)]) (blockQ 1 (seqQ (exL Try.prog E_f15z (cr (cr (cr (cl (cl (cr (cl (cr (cr (bodyC Try.f200)))))))))) 3081 4 [(0, 8)]) (R)))))) (R (.exit 0) (ud3 (.slice oa na pa :: ud56 [])) H)) := by kernel_rfl
def f15z_I1 (ea : OA) (ga : Nat) (da : Nat) (Inv : Nat → OA → Nat → Nat → Int → AHeap → Prop) : Nat → List Value → AHeap → Prop := fun μ tm H => ∃ (oa : OA), ∃ (na : Nat), ∃ (pa : Nat), ∃ (t11 : Int), tm = (f15z_P1 ea ga da oa na pa t11) ∧ Inv μ oa na pa t11 H
theorem f15z_L1 (ea : OA) (ga : Nat) (da : Nat) {Q : Post} (Inv : Nat → OA → Nat → Nat → Int → AHeap → Prop) (ν : Nat) (oa : OA) (na : Nat) (pa : Nat) (t11 : Int)  (H : AHeap) (h0 : Inv ν oa na pa t11 H)
  (hs : ∀ (μ : Nat) (oa : OA) (na : Nat) (pa : Nat) (t11 : Int)  (H : AHeap), Inv μ oa na pa t11 H → exL Try.prog E_f15z (cl (cl (cr (cl (cr (cr (bodyC Try.f200))))))) 3081 4 [(0, 8)] (f15z_P1 ea ga da oa na pa t11) H (loopQ (f15z_I1 ea ga da Inv) μ Q)) : loopK (exL Try.prog E_f15z (cl (cl (cr (cl (cr (cr (bodyC Try.f200))))))) 3081 4 [(0, 8)]) (f15z_P1 ea ga da oa na pa t11) H Q :=
 ⟨f15z_I1 ea ga da Inv, ν, ⟨oa, na, pa, t11, rfl, h0⟩, fun μ tm H h => by obtain ⟨oa, na, pa, t11, rfl, hI⟩ := h; exact hs μ oa na pa t11  H hI⟩
theorem f15z_n1 {ea : OA} {ga : Nat} {da : Nat} {Q : Post} {Inv : Nat → OA → Nat → Nat → Int → AHeap → Prop} {μ : Nat} (μ' : Nat) {oa : OA} {na : Nat} {pa : Nat} {t11 : Int}  {H : AHeap} (hm : μ' < μ) (hI : Inv μ' oa na pa t11 H) : loopQ (f15z_I1 ea ga da Inv) μ Q .normal (f15z_P1 ea ga da oa na pa t11) H := ⟨μ', hm, oa, na, pa, t11, rfl, hI⟩
theorem f15z_x1_0 (oa : OA) (na : Nat) (pa : Nat) (H : AHeap) (K : Value → AHeap → Prop)  {I : Nat → List Value → AHeap → Prop} {μ : Nat} : loopQ I μ (blockQ 0 (seqQ (exL Try.prog E_f15z (cr (cr (cr (bodyC Try.f200)))) 4 4 []) (retK Try.prog Try.f200 K))) (.exit 0) (ud3 (.slice oa na pa :: ud56 [])) H =
 (K (.slice oa na pa) H) := by kernel_rfl
abbrev f15z_P2 (ea : OA) (ga : Nat) (da : Nat) (t11 : Int) (oa : OA) (pa : Nat) (na : Nat) (md : OA) (jd : Nat) (ae : Nat) (put : Bool) (t17 : Int)  : List Value := (.slice ea da ga :: ud2 (.slice oa na pa :: .int .i64 t11 :: .slice md jd ae :: .bool put :: ud3 (.int .i64 (da : Int) :: .int .i64 t11 :: ud4 (.int .i64 (na : Int) :: .int .i64 t17 :: ud42 []))))
theorem f15z_r2 (ea : OA) (ga : Nat) (da : Nat) (t11 : Int) (oa : OA) (pa : Nat) (na : Nat) (md : OA) (jd : Nat) (ae : Nat) (put : Bool) (t17 : Int)  (H : AHeap) (R : Post) : exL Try.prog E_f15z (cl (cl (cr (cl (cr (cr (cr (cl (cl (cr (cr (cl (cl (cr (cl (cr (cr (bodyC Try.f200)))))))))))))))))) 199801 4 [(2, 3185), (1, 3081), (0, 8)] (f15z_P2 ea ga da t11 oa pa na md jd ae put t17) H R =
 (Br (decide ((t17 : Int) < (na : Int))) (Br (!put) ((0 : Int) ≤ t11 ∧ t11 < (da : Int) ∧ ∃ b3 f1, (ea : OA) = some ⟨b3, f1, none⟩ ∧ ∃ x1 : Nat,  rdC H b3 (f1 + (t11 : Int).toNat * 1) = some (.float .f32 x1) ∧ (0 : Int) ≤ t17 ∧ t17 < (na : Int) ∧ ∃ b4 f2, (oa : OA) = some ⟨b4, f2, none⟩ ∧ ∃ x2 : Nat,  rdC H b4 (f2 + (t17 : Int).toNat * 1) = some (.float .f32 x2) ∧ Br (flt .f32 x1 x2) ((0 : Int) ≤ t11 ∧ t11 < (da : Int) ∧ ∃ b5 f3, (ea : OA) = some ⟨b5, f3, none⟩ ∧ ∃ x3 : Nat,  rdC H b5 (f3 + (t11 : Int).toNat * 1) = some (.float .f32 x3) ∧ Al [.float .f32 x3] H fun b6 H3 => ∃ o1 w1 : List Value, ownB H3 md jd ae 1 = some o1 ∧ rdS H3 (some ⟨b6, 0, none⟩) (1 * 1) = some w1 ∧ ((md : OA) = none → 0 < (1 : Nat)) ∧ (jd : Nat) + 1 < most ∧ Ap H3 (killB H3 md ++ [some ⟨o1 ++ w1, true⟩]) fun b7 H4 => (0 : Int) ≤ t17 ∧ t17 < (na : Int) ∧ ∃ b8 f4, (oa : OA) = some ⟨b8, f4, none⟩ ∧ ∃ x4 : Nat,  rdC H4 b8 (f4 + (t17 : Int).toNat * 1) = some (.float .f32 x4) ∧ Al [.float .f32 x4] H4 fun b9 H5 => ∃ o2 w2 : List Value, ownB H5 (some ⟨b7, 0, none⟩) (jd + 1) 1 1 = some o2 ∧ rdS H5 (some ⟨b9, 0, none⟩) (1 * 1) = some w2 ∧ ((some ⟨b7, 0, none⟩ : OA) = none → 0 < (1 : Nat)) ∧ (jd + 1 : Nat) + 1 < most ∧ Ap H5 (killB H5 (some ⟨b7, 0, none⟩) ++ [some ⟨o2 ++ w2, true⟩]) fun b10 H6 => R .normal (.slice ea da ga :: ud2 (.slice oa na pa :: .int .i64 t11 :: .slice (some ⟨b10, 0, none⟩) ((jd + 1) + 1) 1 :: .bool true :: ud3 (.int .i64 (da : Int) :: .int .i64 t11 :: ud4 (.int .i64 (na : Int) :: .int .i64 (IntKind.wrap .i64 (t17 + 1)) :: ud42 [])))) H6) ((0 : Int) ≤ t17 ∧ t17 < (na : Int) ∧ ∃ b11 f5, (oa : OA) = some ⟨b11, f5, none⟩ ∧ ∃ x5 : Nat,  rdC H b11 (f5 + (t17 : Int).toNat * 1) = some (.float .f32 x5) ∧ Al [.float .f32 x5] H fun b12 H7 => ∃ o3 w3 : List Value, ownB H7 md jd ae 1 = some o3 ∧ rdS H7 (some ⟨b12, 0, none⟩) (1 * 1) = some w3 ∧ ((md : OA) = none → 0 < (1 : Nat)) ∧ (jd : Nat) + 1 < most ∧ Ap H7 (killB H7 md ++ [some ⟨o3 ++ w3, true⟩]) fun b13 H8 => R .normal (.slice ea da ga :: ud2 (.slice oa na pa :: .int .i64 t11 :: .slice (some ⟨b13, 0, none⟩) (jd + 1) 1 :: .bool put :: ud3 (.int .i64 (da : Int) :: .int .i64 t11 :: ud4 (.int .i64 (na : Int) :: .int .i64 (IntKind.wrap .i64 (t17 + 1)) :: ud42 [])))) H8)) ((0 : Int) ≤ t17 ∧ t17 < (na : Int) ∧ ∃ b14 f6, (oa : OA) = some ⟨b14, f6, none⟩ ∧ ∃ x6 : Nat,  rdC H b14 (f6 + (t17 : Int).toNat * 1) = some (.float .f32 x6) ∧ Al [.float .f32 x6] H fun b15 H9 => ∃ o4 w4 : List Value, ownB H9 md jd ae 1 = some o4 ∧ rdS H9 (some ⟨b15, 0, none⟩) (1 * 1) = some w4 ∧ ((md : OA) = none → 0 < (1 : Nat)) ∧ (jd : Nat) + 1 < most ∧ Ap H9 (killB H9 md ++ [some ⟨o4 ++ w4, true⟩]) fun b16 H10 => R .normal (.slice ea da ga :: ud2 (.slice oa na pa :: .int .i64 t11 :: .slice (some ⟨b16, 0, none⟩) (jd + 1) 1 :: .bool put :: ud3 (.int .i64 (da : Int) :: .int .i64 t11 :: ud4 (.int .i64 (na : Int) :: .int .i64 (IntKind.wrap .i64 (t17 + 1)) :: ud42 [])))) H10)) (R (.exit 2) (.slice ea da ga :: ud3 (.int .i64 t11 :: .slice md jd ae :: .bool put :: ud3 (.int .i64 (da : Int) :: .int .i64 t11 :: ud48 []))) H)) := by kernel_rfl
def f15z_I2 (ea : OA) (ga : Nat) (da : Nat) (t11 : Int) (oa : OA) (pa : Nat) (na : Nat) (Inv : Nat → OA → Nat → Nat → Bool → Int → AHeap → Prop) : Nat → List Value → AHeap → Prop := fun μ tm H => ∃ (md : OA), ∃ (jd : Nat), ∃ (ae : Nat), ∃ (put : Bool), ∃ (t17 : Int), tm = (f15z_P2 ea ga da t11 oa pa na md jd ae put t17) ∧ Inv μ md jd ae put t17 H
theorem f15z_L2 (ea : OA) (ga : Nat) (da : Nat) (t11 : Int) (oa : OA) (pa : Nat) (na : Nat) {Q : Post} (Inv : Nat → OA → Nat → Nat → Bool → Int → AHeap → Prop) (ν : Nat) (md : OA) (jd : Nat) (ae : Nat) (put : Bool) (t17 : Int)  (H : AHeap) (h0 : Inv ν md jd ae put t17 H)
  (hs : ∀ (μ : Nat) (md : OA) (jd : Nat) (ae : Nat) (put : Bool) (t17 : Int)  (H : AHeap), Inv μ md jd ae put t17 H → exL Try.prog E_f15z (cl (cl (cr (cl (cr (cr (cr (cl (cl (cr (cr (cl (cl (cr (cl (cr (cr (bodyC Try.f200)))))))))))))))))) 199801 4 [(2, 3185), (1, 3081), (0, 8)] (f15z_P2 ea ga da t11 oa pa na md jd ae put t17) H (loopQ (f15z_I2 ea ga da t11 oa pa na Inv) μ Q)) : loopK (exL Try.prog E_f15z (cl (cl (cr (cl (cr (cr (cr (cl (cl (cr (cr (cl (cl (cr (cl (cr (cr (bodyC Try.f200)))))))))))))))))) 199801 4 [(2, 3185), (1, 3081), (0, 8)]) (f15z_P2 ea ga da t11 oa pa na md jd ae put t17) H Q :=
 ⟨f15z_I2 ea ga da t11 oa pa na Inv, ν, ⟨md, jd, ae, put, t17, rfl, h0⟩, fun μ tm H h => by obtain ⟨md, jd, ae, put, t17, rfl, hI⟩ := h; exact hs μ md jd ae put t17  H hI⟩
theorem f15z_n2 {ea : OA} {ga : Nat} {da : Nat} {t11 : Int} {oa : OA} {pa : Nat} {na : Nat} {Q : Post} {Inv : Nat → OA → Nat → Nat → Bool → Int → AHeap → Prop} {μ : Nat} (μ' : Nat) {md : OA} {jd : Nat} {ae : Nat} {put : Bool} {t17 : Int}  {H : AHeap} (hm : μ' < μ) (hI : Inv μ' md jd ae put t17 H) : loopQ (f15z_I2 ea ga da t11 oa pa na Inv) μ Q .normal (f15z_P2 ea ga da t11 oa pa na md jd ae put t17) H := ⟨μ', hm, md, jd, ae, put, t17, rfl, hI⟩
theorem f15z_x2_2 (ea : OA) (ga : Nat) (da : Nat) (t11 : Int) (md : OA) (jd : Nat) (ae : Nat) (put : Bool) (H : AHeap)  (R : Post) {I : Nat → List Value → AHeap → Prop} {μ : Nat} : loopQ I μ (blockQ 2 (seqQ (exL Try.prog E_f15z (cr (cr (cr (cr (cl (cl (cr (cr (cl (cl (cr (cl (cr (cr (bodyC Try.f200))))))))))))))) 3081 4 [(1, 3081), (0, 8)]) (blockQ 1 (seqQ (exL Try.prog E_f15z (cr (cr (cr (cl (cl (cr (cl (cr (cr (bodyC Try.f200)))))))))) 3081 4 [(0, 8)]) (R))))) (.exit 2) (.slice ea da ga :: ud3 (.int .i64 t11 :: .slice md jd ae :: .bool put :: ud3 (.int .i64 (da : Int) :: .int .i64 t11 :: ud48 []))) H =
 (Br (!put) ((0 : Int) ≤ t11 ∧ t11 < (da : Int) ∧ ∃ b17 f7, (ea : OA) = some ⟨b17, f7, none⟩ ∧ ∃ x7 : Nat,  rdC H b17 (f7 + (t11 : Int).toNat * 1) = some (.float .f32 x7) ∧ Al [.float .f32 x7] H fun b18 H11 => ∃ o5 w5 : List Value, ownB H11 md jd ae 1 = some o5 ∧ rdS H11 (some ⟨b18, 0, none⟩) (1 * 1) = some w5 ∧ ((md : OA) = none → 0 < (1 : Nat)) ∧ (jd : Nat) + 1 < most ∧ Ap H11 (killB H11 md ++ [some ⟨o5 ++ w5, true⟩]) fun b19 H12 => R .normal (.slice ea da ga :: ud2 (.slice (some ⟨b19, 0, none⟩) (jd + 1) 1 :: ud6 (.int .i64 (da : Int) :: .int .i64 (IntKind.wrap .i64 (t11 + 1)) :: ud48 []))) H12) (R .normal (.slice ea da ga :: ud2 (.slice md jd ae :: ud6 (.int .i64 (da : Int) :: .int .i64 (IntKind.wrap .i64 (t11 + 1)) :: ud48 []))) H)) := by kernel_rfl
theorem E_f15z_ok : ∀ g, FnOk Try.prog g (E_f15z g) := FnOk.envOf (by
 intro x hx; cases hx)
theorem ω14 {P : Prop} (h : P := by first | omega | (simp; done) | (simp; omega) | ((rcases ‹put = true ∨ (de.length : Int) ≤ t17› with hq | hq <;> first | exact Or.inl rfl | exact Or.inl hq | exact absurd ‹(!put) = true› (by rw [hq]; decide) | omega | (simp only [List.length_append, List.length_cons, List.length_nil]; omega) | (exact Or.inr (by simp only [List.length_append, List.length_cons, List.length_nil]; omega))))) : P := h
theorem ω3 {P : Prop} (h : P := by first | omega | ((rcases ‹put = true ∨ (de.length : Int) ≤ t17› with hq | hq <;> first | exact Or.inl rfl | exact Or.inl hq | exact absurd ‹(!put) = true› (by rw [hq]; decide) | omega | (simp only [List.length_append, List.length_cons, List.length_nil]; omega) | (exact Or.inr (by simp only [List.length_append, List.length_cons, List.length_nil]; omega)))) | (simp only [List.length_append, List.length_cons, List.length_nil, List.length_set]; done) | (simp only [List.length_append, List.length_cons, List.length_nil, List.length_set]; omega)) : P := h
theorem f15z_main (ea : OA) (da : Nat) (ga : Nat) (H : AHeap) (K : Value → AHeap → Prop) (h : T_f15z ea da ga H fun (ib : OA) (kb : Nat) (jb : Nat) (H' : AHeap) => K (.slice ib kb jb) H') : bodyL Try.prog E_f15z Try.f200 [.slice ea da ga] H K := by
 rw [f15z_vc]
 obtain ⟨aa, i_list, bd_203, hk⟩ := h
 obtain rfl := i_list.eqn
 have e : (p_f15z aa) = _ := rfl
 have e := e.trans (p_f15z_eq aa)
 have g0 := Grow.refl H
 refine Al.intro (fun b_1 H_1 hb_2 hl_3 g_4 o_5 => ?_)
 have o_5 : Own H_1 b_1 ((([] : LN)).map fF) := o_5
 have l7 := g_4.1
 have g8 := g0.trans g_4
 have l9 := g8.1
 have w202 := o_5.lt
 refine f15z_L1 _ _ _ (fun (μ : Nat) (oa : OA) (na : Nat) (pa : Nat) (t11 : Int) (H_2 : AHeap) => ∃ (lb : LN), ∃ (b_10 : Nat), oa = some ⟨b_10, 0, none⟩ ∧ na = lb.length ∧ pa = 1 ∧ Own H_2 b_10 (lb.map fF) ∧ Grow H H_2 ∧ H.length ≤ b_10 ∧ (0 : Int) ≤ t11 ∧ t11 ≤ (aa.length : Int) ∧ (lb.length : Int) ≤ t11 ∧ (aa.length : Int) - t11 ≤ (μ : Int) ∧ p_f15z aa = p_f15z_l1 aa (μ + 1) lb t11) (Int.toNat ((aa.length : Int) - (0 : Int))) _ _ _ _ H_1 ?_ ?_
 ·exact ⟨_, _, rfl, ω10, rfl, o_5, g8, ω2, ω14, ω14, ω14, ω2, e⟩
 ·intro μ oa na pa t11  H_2 hI
  obtain ⟨lb, b_10, rfl, rfl, rfl, o11, g12, l13, v14, v15, v16, hμ, e⟩ := hI
  rw [f15z_r1]
  have e := e.trans (p_f15z_l1_s aa μ lb t11)
  have w17 := o11.lt
  have l18 := g12.1
  refine Br.intro (fun c19 => ?_) (fun c19 => ?_)
  ·have e := e.trans (cond_t c19)
   have c_19' := of_decide_eq_true c19
   refine Al.intro (fun b20 H_3 hb_21 hl_22 g23 o24 => ?_)
   have o24 : Own H_3 b20 ((([] : LN)).map fF) := o24
   have l26 := g23.1
   have g27 := g12.trans g23
   have l28 := g27.1
   have o29 := o11.grow g23
   have w30 := o29.lt
   have w201 := o24.lt
   refine f15z_L2 _ _ _ _ _ _ _ (fun (μ2 : Nat) (md : OA) (jd : Nat) (ae : Nat) (put : Bool) (t17 : Int) (H_4 : AHeap) => ∃ (de : LN), ∃ (b31 : Nat), md = some ⟨b31, 0, none⟩ ∧ jd = de.length ∧ ae = 1 ∧ Own H_4 b31 (de.map fF) ∧ Own H_4 b_10 ((lb).map fF) ∧ (b31 ≠ b_10) ∧ Grow H H_4 ∧ H.length ≤ b31 ∧ (0 : Int) ≤ t17 ∧ t17 ≤ (lb.length : Int) ∧ ((put = true ∨ (de.length : Int) ≤ t17)) ∧ (de.length : Int) ≤ t17 + 1 ∧ (lb.length : Int) - t17 ≤ (μ2 : Int) ∧ p_f15z aa = p_f15z_l2 aa lb t11 (fun (de : LN) (put : Bool) (t17 : Int) => (bif !put then (p_f15z_l1 aa μ ((de ++ [(((aa).getD (t11 : Int).toNat 0))])) (t11 + 1)) else (p_f15z_l1 aa μ de (t11 + 1)))) (μ2 + 1) de put t17) (Int.toNat ((lb.length : Int) - (0 : Int))) _ _ _ _ _ H_3 ?_ ?_
   ·exact ⟨_, _, rfl, ω10, rfl, o24, o29, ω2, g27, ω2, ω14, ω14, ω14, ω14, ω2, e⟩
   ·intro μ2 md jd ae put t17  H_4 hI
    obtain ⟨de, b31, rfl, rfl, rfl, o32, o33, n34, g35, l36, v37, v38, v39, v40, hμ, e⟩ := hI
    rw [f15z_r2]
    have e := e.trans (p_f15z_l2_s aa lb t11 (fun (de : LN) (put : Bool) (t17 : Int) => (bif !put then (p_f15z_l1 aa μ ((de ++ [(((aa).getD (t11 : Int).toNat 0))])) (t11 + 1)) else (p_f15z_l1 aa μ de (t11 + 1)))) μ2 de put t17)
    have w41 := o33.lt
    have w42 := o32.lt
    have l43 := g35.1
    refine Br.intro (fun c44 => ?_) (fun c44 => ?_)
    ·have e := e.trans (cond_t c44)
     have c_44' := of_decide_eq_true c44
     refine Br.intro (fun c45 => ?_) (fun c45 => ?_)
     ·have e := e.trans (cond_t c45)
      have c_45n := nf_of_t c45
      obtain ⟨b46, f47, q48⟩ := ((i_list.grow g35)).pos ω0
      refine ⟨by omega, by omega, b46, f47, q48, ?_⟩
      refine ⟨((aa).getD (t11 : Int).toNat 0), (i_list).rd g35 q48 ω2 _, ?_⟩
      refine ⟨by omega, ω2, _, _, rfl, ?_⟩
      refine ⟨((lb).getD (t17 : Int).toNat 0), o33.rd ω0 _, ?_⟩
      refine Br.intro (fun c49 => ?_) (fun c49 => ?_)
      ·have e := e.trans (cond_t c49)
       obtain ⟨b50, f51, q52⟩ := ((i_list.grow g35)).pos ω0
       refine ⟨by omega, by omega, b50, f51, q52, ?_⟩
       refine ⟨((aa).getD (t11 : Int).toNat 0), (i_list).rd g35 q52 ω2 _, ?_⟩
       refine Al.intro (fun b53 H_5 hb_54 hl_55 g56 o57 => ?_)
       have o57 : Own H_5 b53 (([(((aa).getD (t11 : Int).toNat 0))]).map fF) := o57
       have l59 := g56.1
       have g60 := g35.trans g56
       have l61 := g60.1
       have o62 := o33.grow g56
       have w63 := o62.lt
       have o64 := o32.grow g56
       have w65 := o64.lt
       have w112 := o57.lt
       refine ⟨_, _, o64.ownB ω5 rfl, (isl_rdS (o57.isL ω10)), (fun h => by cases h), ω24, ?_⟩
       refine Ap.app o64 rfl rfl (fun b70 H_6 q110 hl_66 o67 k68 => ?_)
       have o67 := map_snoc o67
       have l71 := k68.1
       have g72 := g60.keep (b := b31) ω2 k68
       have l73 := g72.1
       have o74 := o62.keep ω2 k68
       have w75 := o74.lt
       have o76 := o57.keep ω2 k68
       have w77 := o76.lt
       have w111 := o67.lt
       refine ⟨by omega, ω2, _, _, rfl, ?_⟩
       refine ⟨((lb).getD (t17 : Int).toNat 0), o74.rd ω0 _, ?_⟩
       refine Al.intro (fun b78 H_7 hb_79 hl_80 g81 o82 => ?_)
       have o82 : Own H_7 b78 (([(((lb).getD (t17 : Int).toNat 0))]).map fF) := o82
       have l84 := g81.1
       have g85 := g72.trans g81
       have l86 := g85.1
       have o87 := o74.grow g81
       have w88 := o87.lt
       have o89 := o76.grow g81
       have w90 := o89.lt
       have o91 := o67.grow g81
       have w92 := o91.lt
       have w109 := o82.lt
       refine ⟨_, _, o91.ownB ω5 rfl, (isl_rdS (o82.isL ω10)), (fun h => by cases h), ω24, ?_⟩
       refine Ap.app o91 rfl rfl (fun b97 H_8 q107 hl_93 o94 k95 => ?_)
       have o94 := map_snoc o94
       have l98 := k95.1
       have g99 := g85.keep (b := b70) ω2 k95
       have l100 := g99.1
       have o101 := o87.keep ω2 k95
       have w102 := o101.lt
       have o103 := o89.keep ω2 k95
       have w104 := o103.lt
       have o105 := o82.keep ω2 k95
       have w106 := o105.lt
       have w108 := o94.lt
       rw [show IntKind.wrap .i64 (t17 + 1) = (t17 + 1) from wrap64 ω2 ω2]
       refine f15z_n2 (μ2 - 1) ω17 ⟨_, _, rfl, ω8, rfl, o94, o101, ω2, g99, ω2, ω3, ω3, ω3, ω3, ω17, ω22⟩
      ·have e := e.trans (cond_f c49)
       refine ⟨by omega, ω2, _, _, rfl, ?_⟩
       refine ⟨((lb).getD (t17 : Int).toNat 0), o33.rd ω0 _, ?_⟩
       refine Al.intro (fun b113 H_9 hb_114 hl_115 g116 o117 => ?_)
       have o117 : Own H_9 b113 (([(((lb).getD (t17 : Int).toNat 0))]).map fF) := o117
       have l119 := g116.1
       have g120 := g35.trans g116
       have l121 := g120.1
       have o122 := o33.grow g116
       have w123 := o122.lt
       have o124 := o32.grow g116
       have w125 := o124.lt
       have w140 := o117.lt
       refine ⟨_, _, o124.ownB ω5 rfl, (isl_rdS (o117.isL ω10)), (fun h => by cases h), ω24, ?_⟩
       refine Ap.app o124 rfl rfl (fun b130 H_10 q138 hl_126 o127 k128 => ?_)
       have o127 := map_snoc o127
       have l131 := k128.1
       have g132 := g120.keep (b := b31) ω2 k128
       have l133 := g132.1
       have o134 := o122.keep ω2 k128
       have w135 := o134.lt
       have o136 := o117.keep ω2 k128
       have w137 := o136.lt
       have w139 := o127.lt
       rw [show IntKind.wrap .i64 (t17 + 1) = (t17 + 1) from wrap64 ω2 ω2]
       refine f15z_n2 (μ2 - 1) ω17 ⟨_, _, rfl, ω8, rfl, o127, o134, ω2, g132, ω2, ω3, ω3, ω3, ω3, ω17, ω22⟩
     ·have e := e.trans (cond_f c45)
      have c_45n := nt_of_f c45
      refine ⟨by omega, ω2, _, _, rfl, ?_⟩
      refine ⟨((lb).getD (t17 : Int).toNat 0), o33.rd ω0 _, ?_⟩
      refine Al.intro (fun b141 H_11 hb_142 hl_143 g144 o145 => ?_)
      have o145 : Own H_11 b141 (([(((lb).getD (t17 : Int).toNat 0))]).map fF) := o145
      have l147 := g144.1
      have g148 := g35.trans g144
      have l149 := g148.1
      have o150 := o33.grow g144
      have w151 := o150.lt
      have o152 := o32.grow g144
      have w153 := o152.lt
      have w168 := o145.lt
      refine ⟨_, _, o152.ownB ω5 rfl, (isl_rdS (o145.isL ω10)), (fun h => by cases h), ω24, ?_⟩
      refine Ap.app o152 rfl rfl (fun b158 H_12 q166 hl_154 o155 k156 => ?_)
      have o155 := map_snoc o155
      have l159 := k156.1
      have g160 := g148.keep (b := b31) ω2 k156
      have l161 := g160.1
      have o162 := o150.keep ω2 k156
      have w163 := o162.lt
      have o164 := o145.keep ω2 k156
      have w165 := o164.lt
      have w167 := o155.lt
      rw [show IntKind.wrap .i64 (t17 + 1) = (t17 + 1) from wrap64 ω2 ω2]
      refine f15z_n2 (μ2 - 1) ω17 ⟨_, _, rfl, ω8, rfl, o155, o162, ω2, g160, ω2, ω3, ω3, ω3, ω3, ω17, ω22⟩
    ·have e := e.trans (cond_f c44)
     have c_44' := of_decide_eq_false c44
     rw [f15z_x2_2]
     refine Br.intro (fun c169 => ?_) (fun c169 => ?_)
     ·have e := e.trans (cond_t c169)
      have c_169n := nf_of_t c169
      obtain ⟨b170, f_171, q172⟩ := ((i_list.grow g35)).pos ω0
      refine ⟨by omega, by omega, b170, f_171, q172, ?_⟩
      refine ⟨((aa).getD (t11 : Int).toNat 0), (i_list).rd g35 q172 ω2 _, ?_⟩
      refine Al.intro (fun b173 H_13 hb_174 hl_175 g176 o177 => ?_)
      have o177 : Own H_13 b173 (([(((aa).getD (t11 : Int).toNat 0))]).map fF) := o177
      have l179 := g176.1
      have g180 := g35.trans g176
      have l181 := g180.1
      have o182 := o33.grow g176
      have w183 := o182.lt
      have o184 := o32.grow g176
      have w185 := o184.lt
      have w200 := o177.lt
      refine ⟨_, _, o184.ownB ω5 rfl, (isl_rdS (o177.isL ω10)), (fun h => by cases h), ω24, ?_⟩
      refine Ap.app o184 rfl rfl (fun b190 H_14 q198 hl_186 o187 k188 => ?_)
      have o187 := map_snoc o187
      have l191 := k188.1
      have g192 := g180.keep (b := b31) ω2 k188
      have l193 := g192.1
      have o194 := o182.keep ω2 k188
      have w195 := o194.lt
      have o196 := o177.keep ω2 k188
      have w197 := o196.lt
      have w199 := o187.lt
      rw [show IntKind.wrap .i64 (t11 + 1) = (t11 + 1) from wrap64 ω2 ω2]
      refine f15z_n1 (μ - 1) ω17 ⟨_, _, rfl, ω8, rfl, o187, g192, ω2, ω3, ω3, ω3, ω17, ω12⟩
     ·have e := e.trans (cond_f c169)
      have c_169n := nt_of_f c169
      rw [show IntKind.wrap .i64 (t11 + 1) = (t11 + 1) from wrap64 ω2 ω2]
      refine f15z_n1 (μ - 1) ω17 ⟨_, _, rfl, ω10, rfl, o32, g35, ω2, ω3, ω3, ω3, ω17, ω12⟩
  ·have e := e.trans (cond_f c19)
   have c_19' := of_decide_eq_false c19
   rw [f15z_x1_0]
   rw [e] at hk
   exact hk _ _ _ H_2 g12 (o11.ownS ω10 ω2)
theorem f15z_ok : FnOk Try.prog 200 S_f15z := by
 refine FnOk.body mix_ok E_f15z_ok Try.func200 rfl ω15 ω15 ?_ ?_ ?_ ?_ ?_
 ·intro args H K K' h hk
  simp only [S_f15z] at *
  unfold F_f15z at *
  split at hk
  ·obtain ⟨aa, i_list, bd_203, k⟩ := hk
   exact ⟨aa, i_list, bd_203, (fun ib kb jb H' gg ow0 => h _ _ (k ib kb jb H' gg ow0))⟩
  ·exact hk.elim
 ·intro hq; cases hq
 ·intro args H K hk
  simp only [S_f15z] at *
  unfold F_f15z at *
  split at hk
  ·obtain ⟨aa, i_list, bd_203, k⟩ := hk
   exact liveS fun a n e H1 g o => ⟨_, _, k a n e H1 g o⟩
  ·exact hk.elim
 ·intro _ args H K hk
  simp only [S_f15z] at *
  unfold F_f15z at *
  split at hk
  ·obtain ⟨aa, i_list, bd_203, k⟩ := hk
   exact ⟨aa, i_list, bd_203, (fun ib kb jb H' gg ow0 => ⟨gg, k ib kb jb H' gg ow0⟩)⟩
  ·exact hk.elim
 ·have mm := @f15z_main
  have ml := fun (args : List Value) (H : AHeap) (K : Value → AHeap → Prop) => bodyL_body (P := Try.prog) (env := E_f15z ) (fn := Try.f200) (args := args) (H := H) (K := K) E_f15z_ok 
  revert mm ml
  generalize bodyK Try.prog E_f15z Try.f200 = Q
  generalize bodyL Try.prog E_f15z Try.f200 = QL
  intro mm ml args H K hk
  simp only [S_f15z] at *
  unfold F_f15z at *
  split at hk
  ·exact ml _ H K (mm _ _ _ H K hk)
  ·exact hk.elim
end Go.Proofs.Ytbnplefohfamnaa.Ai
