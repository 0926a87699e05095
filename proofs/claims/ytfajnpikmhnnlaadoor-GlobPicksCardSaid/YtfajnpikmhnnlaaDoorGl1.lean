/- generated -/
import Derived.Test.YtfajnpikmhnnlaaDoorGlZ
import Derived.Test.YtfajnpikmhnnlaaDoorProg
import Derived.KernelRfl
namespace Go.Gl
open Go Go.Ev
set_option maxRecDepth 100000
theorem mixed : Go.Proofs.Tryd.prog.follows .mixedOrders = true := by kernel_rfl
/-! pigeonhole/pigeonholelaw18.short -/
def F8 (p : ((List UInt8) × Unit) × Unit) : Option ((List UInt8) × Unit) := (cond (decide ((200:Int) < (((List.length p.1.1) : Nat) : Int))) (cond (decide ((200:Int) ≤ (((List.length p.1.1) : Nat) : Int))) (some ((List.take 200 p.1.1), ())) none) (some (p.1.1, ())))
def O8 : Orc := ⟨(.cons .s .nil), [], .s, [], F8⟩
def H8 : HT := .leaf
def X8 : List (FuncId × Orc) := []
def Y8 : List (FuncId × (List AV → Option AV)) := []
def Z8 : List (FuncId × Deed) := []
def I8 : List FuncId := []
theorem run8 (p) : evTop Go.Proofs.Tryd.prog (callX Go.Proofs.Tryd.prog (lookX X8) (lookM X8) (lookY Y8) (lookZ Z8) (hasN I8) 6) (mild (lookM X8) (lookY Y8)) Go.Proofs.Tryd.f8 H8 O8 p = F8 p := by kernel_rfl
theorem ok8 : O8.OK Go.Proofs.Tryd.prog 8 :=
  ok_of mixed (X := X8) (Y := Y8) (Z := Z8) (I := I8) (d := 6) trivial trivial trivial trivial (by kernel_rfl) Go.Proofs.Tryd.func8 Go.Proofs.Tryd.call8 (c := bodyOf Go.Proofs.Tryd.f8) (by kernel_rfl) (h := H8) (by kernel_rfl)
    (ls := []) (by kernel_rfl) trivial run8

/-! internal/stringslite.HasPrefix -/
def F42 (p : ((List UInt8) × (List UInt8) × Unit) × Unit) : Option (Bool × Unit) := (cond (((decide ((0:Int) ≤ (((List.length p.1.2.1) : Nat) : Int))) && (decide ((((List.length p.1.2.1) : Nat) : Int) ≤ (((List.length p.1.1) : Nat) : Int)))) || (!(decide ((((List.length p.1.2.1) : Nat) : Int) ≤ (((List.length p.1.1) : Nat) : Int))))) (some (((decide ((((List.length p.1.2.1) : Nat) : Int) ≤ (((List.length p.1.1) : Nat) : Int))) && (decide ((List.take (Int.toNat (((List.length p.1.2.1) : Nat) : Int)) p.1.1) = p.1.2.1))), ())) none)
def O42 : Orc := ⟨(.cons .s (.cons .s .nil)), [], .b, [], F42⟩
def H42 : HT := .leaf
def X42 : List (FuncId × Orc) := []
def Y42 : List (FuncId × (List AV → Option AV)) := []
def Z42 : List (FuncId × Deed) := []
def I42 : List FuncId := []
theorem run42 (p) : evTop Go.Proofs.Tryd.prog (callX Go.Proofs.Tryd.prog (lookX X42) (lookM X42) (lookY Y42) (lookZ Z42) (hasN I42) 6) (mild (lookM X42) (lookY Y42)) Go.Proofs.Tryd.f42 H42 O42 p = F42 p := by kernel_rfl
theorem ok42 : O42.OK Go.Proofs.Tryd.prog 42 :=
  ok_of mixed (X := X42) (Y := Y42) (Z := Z42) (I := I42) (d := 6) trivial trivial trivial trivial (by kernel_rfl) Go.Proofs.Tryd.func42 Go.Proofs.Tryd.call42 (c := bodyOf Go.Proofs.Tryd.f42) (by kernel_rfl) (h := H42) (by kernel_rfl)
    (ls := []) (by kernel_rfl) trivial run42

/-! strings.HasPrefix -/
def F30 (p : ((List UInt8) × (List UInt8) × Unit) × Unit) : Option (Bool × Unit) := (Option.bind (F42 ((p.1.1, p.1.2.1, ()), ())) fun r1 => (some (r1.1, ())))
def O30 : Orc := ⟨(.cons .s (.cons .s .nil)), [], .b, [], F30⟩
def H30 : HT := .leaf
def X30 : List (FuncId × Orc) := [(42, O42)]
def Y30 : List (FuncId × (List AV → Option AV)) := []
def Z30 : List (FuncId × Deed) := []
def I30 : List FuncId := []
theorem run30 (p) : evTop Go.Proofs.Tryd.prog (callX Go.Proofs.Tryd.prog (lookX X30) (lookM X30) (lookY Y30) (lookZ Z30) (hasN I30) 6) (mild (lookM X30) (lookY Y30)) Go.Proofs.Tryd.f30 H30 O30 p = F30 p := by kernel_rfl
theorem ok30 : O30.OK Go.Proofs.Tryd.prog 30 :=
  ok_of mixed (X := X30) (Y := Y30) (Z := Z30) (I := I30) (d := 6) ⟨ok42, trivial⟩ trivial trivial trivial (by kernel_rfl) Go.Proofs.Tryd.func30 Go.Proofs.Tryd.call30 (c := bodyOf Go.Proofs.Tryd.f30) (by kernel_rfl) (h := H30) (by kernel_rfl)
    (ls := []) (by kernel_rfl) trivial run30

/-! pigeonhole/glob.Under -/
def F16 (p : ((List UInt8) × (List UInt8) × Unit) × Unit) : Option (Bool × Unit) := (cond ((fits (List.length p.1.2.1 + List.length ([47]:List UInt8))) || (!(!(decide (p.1.2.1 = ([]:List UInt8)))))) (cond (!(decide (p.1.2.1 = ([]:List UInt8)))) (Option.bind (F30 ((p.1.1, (p.1.2.1 ++ ([47]:List UInt8)), ()), ())) fun r1 => (some (r1.1, ()))) (some (false, ()))) none)
def O16 : Orc := ⟨(.cons .s (.cons .s .nil)), [], .b, [], F16⟩
def H16 : HT := .leaf
def X16 : List (FuncId × Orc) := [(30, O30)]
def Y16 : List (FuncId × (List AV → Option AV)) := []
def Z16 : List (FuncId × Deed) := []
def I16 : List FuncId := []
theorem run16 (p) : evTop Go.Proofs.Tryd.prog (callX Go.Proofs.Tryd.prog (lookX X16) (lookM X16) (lookY Y16) (lookZ Z16) (hasN I16) 6) (mild (lookM X16) (lookY Y16)) Go.Proofs.Tryd.f16 H16 O16 p = F16 p := by kernel_rfl
theorem ok16 : O16.OK Go.Proofs.Tryd.prog 16 :=
  ok_of mixed (X := X16) (Y := Y16) (Z := Z16) (I := I16) (d := 6) ⟨ok30, trivial⟩ trivial trivial trivial (by kernel_rfl) Go.Proofs.Tryd.func16 Go.Proofs.Tryd.call16 (c := bodyOf Go.Proofs.Tryd.f16) (by kernel_rfl) (h := H16) (by kernel_rfl)
    (ls := []) (by kernel_rfl) trivial run16

/-! pigeonhole/glob.Moved -/
def F18 (p : ((List UInt8) × (List UInt8) × (List UInt8) × Unit) × Unit) : Option (((List UInt8) × Bool × Unit) × Unit) := (cond (!(decide (p.1.1 = p.1.2.1))) (Option.bind (F16 ((p.1.1, p.1.2.1, ()), ())) fun r1 => (cond r1.1 (cond (((decide ((0:Int) ≤ (((List.length p.1.2.1) : Nat) : Int))) && (decide ((((List.length p.1.2.1) : Nat) : Int) ≤ (((List.length p.1.1) : Nat) : Int)))) && (decide ((((List.length p.1.1) : Nat) : Int) ≤ (((List.length p.1.1) : Nat) : Int)))) (cond (fits (List.length p.1.2.2.1 + List.length (List.take ((Int.toNat (((List.length p.1.1) : Nat) : Int)) - (Int.toNat (((List.length p.1.2.1) : Nat) : Int))) (List.drop (Int.toNat (((List.length p.1.2.1) : Nat) : Int)) p.1.1)))) (some (((p.1.2.2.1 ++ (List.take ((Int.toNat (((List.length p.1.1) : Nat) : Int)) - (Int.toNat (((List.length p.1.2.1) : Nat) : Int))) (List.drop (Int.toNat (((List.length p.1.2.1) : Nat) : Int)) p.1.1))), true, ()), ())) none) none) (some ((([]:List UInt8), false, ()), ())))) (cond (((decide ((0:Int) ≤ (((List.length p.1.2.1) : Nat) : Int))) && (decide ((((List.length p.1.2.1) : Nat) : Int) ≤ (((List.length p.1.1) : Nat) : Int)))) && (decide ((((List.length p.1.1) : Nat) : Int) ≤ (((List.length p.1.1) : Nat) : Int)))) (cond (fits (List.length p.1.2.2.1 + List.length (List.take ((Int.toNat (((List.length p.1.1) : Nat) : Int)) - (Int.toNat (((List.length p.1.2.1) : Nat) : Int))) (List.drop (Int.toNat (((List.length p.1.2.1) : Nat) : Int)) p.1.1)))) (some (((p.1.2.2.1 ++ (List.take ((Int.toNat (((List.length p.1.1) : Nat) : Int)) - (Int.toNat (((List.length p.1.2.1) : Nat) : Int))) (List.drop (Int.toNat (((List.length p.1.2.1) : Nat) : Int)) p.1.1))), true, ()), ())) none) none))
def O18 : Orc := ⟨(.cons .s (.cons .s (.cons .s .nil))), [], (.tup (.cons .s (.cons .b .nil))), [], F18⟩
def H18 : HT := .leaf
def X18 : List (FuncId × Orc) := [(16, O16)]
def Y18 : List (FuncId × (List AV → Option AV)) := []
def Z18 : List (FuncId × Deed) := []
def I18 : List FuncId := []
theorem run18 (p) : evTop Go.Proofs.Tryd.prog (callX Go.Proofs.Tryd.prog (lookX X18) (lookM X18) (lookY Y18) (lookZ Z18) (hasN I18) 6) (mild (lookM X18) (lookY Y18)) Go.Proofs.Tryd.f18 H18 O18 p = F18 p := by kernel_rfl
theorem ok18 : O18.OK Go.Proofs.Tryd.prog 18 :=
  ok_of mixed (X := X18) (Y := Y18) (Z := Z18) (I := I18) (d := 6) ⟨ok16, trivial⟩ trivial trivial trivial (by kernel_rfl) Go.Proofs.Tryd.func18 Go.Proofs.Tryd.call18 (c := bodyOf Go.Proofs.Tryd.f18) (by kernel_rfl) (h := H18) (by kernel_rfl)
    (ls := []) (by kernel_rfl) trivial run18

/-! pigeonhole/text.Lower -/
def S40_0 : Shape := ⟨[(3, (.own 0)), (8, (.own 0)), (9, (.i .i64)), (10, (.i .i64))], [(0, (.data .u8))], 1⟩
def U40_0 : Outs := [((.exit 0), ⟨[(3, (.own 0))], [(0, (.data .u8))], 1⟩)]
def B40_0 (p : ((Unit × Unit × Int × Int × Unit) × ((List UInt8) × Unit))) : Option (((Unit × Unit × Int × Int × Unit) × ((List UInt8) × Unit)) ⊕ ((Unit × Unit) × ((List UInt8) × Unit))) := (cond (decide (p.1.2.2.2.1 < p.1.2.2.1)) (Option.bind (cond ((decide ((0:Int) ≤ p.1.2.2.2.1)) && (decide (p.1.2.2.2.1 < (((List.length p.2.1) : Nat) : Int)))) (cond ((decide ((UInt8.toNat (65:UInt8)) ≤ (UInt8.toNat (List.getD p.2.1 (Int.toNat p.1.2.2.2.1) (0:UInt8))))) && (decide ((UInt8.toNat (List.getD p.2.1 (Int.toNat p.1.2.2.2.1) (0:UInt8))) ≤ (UInt8.toNat (90:UInt8))))) (Option.bind (cond ((decide ((0:Int) ≤ p.1.2.2.2.1)) && (decide (p.1.2.2.2.1 < (((List.length p.2.1) : Nat) : Int)))) (some (((), (), p.1.2.2.1, p.1.2.2.2.1, ()), ((List.set p.2.1 (Int.toNat p.1.2.2.2.1) ((List.getD p.2.1 (Int.toNat p.1.2.2.2.1) (0:UInt8)) + (32:UInt8))), ()))) none) fun (p1 : ((Unit × Unit × Int × Int × Unit) × ((List UInt8) × Unit))) => (some (((), (), p1.1.2.2.1, p1.1.2.2.2.1, ()), (p1.2.1, ())))) (some (((), (), p.1.2.2.1, p.1.2.2.2.1, ()), (p.2.1, ())))) none) fun (p2 : ((Unit × Unit × Int × Int × Unit) × ((List UInt8) × Unit))) => (some (Sum.inl (((), (), p2.1.2.2.1, (w64 (p2.1.2.2.2.1 + (1:Int))), ()), (p2.2.1, ()))))) (some (Sum.inr (((), ()), (p.2.1, ())))))
def L40_0 (p : ((Unit × Unit × Int × Int × Unit) × ((List UInt8) × Unit))) : Option ((Unit × Unit) × ((List UInt8) × Unit)) := loopOf B40_0 p
def H40_0 : HT := (.two .leaf (.two .leaf (.two (.join [(.normal, ⟨[(3, (.own 0)), (8, (.own 0)), (9, (.i .i64)), (10, (.i .i64))], [(0, (.data .u8))], 1⟩)] (.one (.two .leaf (.two .leaf (.two (.join [(.normal, ⟨[(3, (.own 0)), (8, (.own 0)), (9, (.i .i64)), (10, (.i .i64))], [(0, (.data .u8))], 1⟩)] .leaf) .leaf))))) .leaf)))
def F40 (p : ((List UInt8) × Unit) × Unit) : Option ((List UInt8) × Unit) := (Option.bind (Option.bind (L40_0 (((), (), (((List.length p.1.1) : Nat) : Int), (0:Int), ()), (p.1.1, ()))) fun p3 => (some (((), ()), (p3.2.1, ())))) fun p4 => (some (p4.2.1, ())))
def O40 : Orc := ⟨(.cons .s .nil), [], .s, [], F40⟩
def H40 : HT := (.two .leaf (.two .leaf (.two (.join [(.normal, ⟨[(3, (.own 0))], [(0, (.data .u8))], 1⟩)] (.two .leaf (.one (.loop S40_0 U40_0 L40_0 H40_0)))) .leaf)))
def X40 : List (FuncId × Orc) := []
def Y40 : List (FuncId × (List AV → Option AV)) := []
def Z40 : List (FuncId × Deed) := []
def I40 : List FuncId := []
theorem round40_0 (p) : round Go.Proofs.Tryd.prog (callX Go.Proofs.Tryd.prog (lookX X40) (lookM X40) (lookY Y40) (lookZ Z40) (hasN I40) 6) (mild (lookM X40) (lookY Y40)) 0 29 (subc (bodyOf Go.Proofs.Tryd.f40) [true, true, false, true, false, false]) H40_0 S40_0 U40_0 p = B40_0 p := by kernel_rfl
theorem run40 (p) : evTop Go.Proofs.Tryd.prog (callX Go.Proofs.Tryd.prog (lookX X40) (lookM X40) (lookY Y40) (lookZ Z40) (hasN I40) 6) (mild (lookM X40) (lookY Y40)) Go.Proofs.Tryd.f40 H40 O40 p = F40 p := by kernel_rfl
theorem ok40 : O40.OK Go.Proofs.Tryd.prog 40 :=
  ok_of mixed (X := X40) (Y := Y40) (Z := Z40) (I := I40) (d := 6) trivial trivial trivial trivial (by kernel_rfl) Go.Proofs.Tryd.func40 Go.Proofs.Tryd.call40 (c := bodyOf Go.Proofs.Tryd.f40) (by kernel_rfl) (h := H40) (by kernel_rfl)
    (ls := [⟨subc (bodyOf Go.Proofs.Tryd.f40) [true, true, false, true, false, false], H40_0, S40_0, U40_0, L40_0⟩]) (by kernel_rfl) ⟨LoopRec.of rfl round40_0, trivial⟩ run40

/-! pigeonhole/text.Same -/
def F25 (p : ((List UInt8) × (List UInt8) × Unit) × Unit) : Option (Bool × Unit) := (Option.bind (F40 ((p.1.1, ()), ())) fun r1 => (Option.bind (F40 ((p.1.2.1, ()), ())) fun r2 => (some ((decide (r1.1 = r2.1)), ()))))
def O25 : Orc := ⟨(.cons .s (.cons .s .nil)), [], .b, [], F25⟩
def H25 : HT := .leaf
def X25 : List (FuncId × Orc) := [(40, O40)]
def Y25 : List (FuncId × (List AV → Option AV)) := []
def Z25 : List (FuncId × Deed) := []
def I25 : List FuncId := []
theorem run25 (p) : evTop Go.Proofs.Tryd.prog (callX Go.Proofs.Tryd.prog (lookX X25) (lookM X25) (lookY Y25) (lookZ Z25) (hasN I25) 6) (mild (lookM X25) (lookY Y25)) Go.Proofs.Tryd.f25 H25 O25 p = F25 p := by kernel_rfl
theorem ok25 : O25.OK Go.Proofs.Tryd.prog 25 :=
  ok_of mixed (X := X25) (Y := Y25) (Z := Z25) (I := I25) (d := 6) ⟨ok40, trivial⟩ trivial trivial trivial (by kernel_rfl) Go.Proofs.Tryd.func25 Go.Proofs.Tryd.call25 (c := bodyOf Go.Proofs.Tryd.f25) (by kernel_rfl) (h := H25) (by kernel_rfl)
    (ls := []) (by kernel_rfl) trivial run25

/-! pigeonhole/glob.match -/
def S26_0 : Shape := ⟨[(0, .s), (1, .s), (5, (.i .i64)), (6, (.i .i64)), (7, (.ptr 0 0)), (8, (.ptr 1 0))], [(0, (.vars (.cons (.i .i64) (.cons (.i .i64) .nil)))), (1, (.vars (.cons (.i .i64) (.cons (.i .i64) .nil))))], 2⟩
def U26_0 : Outs := [(.ret, ⟨[(4, .b)], [], 0⟩)]
def B26_0 (p : (((List UInt8) × (List UInt8) × Int × Int × Unit × Unit × Unit) × ((Int × Int × Unit) × (Int × Int × Unit) × Unit))) : Option ((((List UInt8) × (List UInt8) × Int × Int × Unit × Unit × Unit) × ((Int × Int × Unit) × (Int × Int × Unit) × Unit)) ⊕ ((Bool × Unit) × Unit)) := (cond (((decide ((0:Int) ≤ p.1.2.2.1)) && (decide (p.1.2.2.1 < (((List.length p.1.1) : Nat) : Int)))) || (!(decide (p.1.2.2.1 < (((List.length p.1.1) : Nat) : Int))))) (cond ((decide (p.1.2.2.1 < (((List.length p.1.1) : Nat) : Int))) && (decide ((List.getD p.1.1 (Int.toNat p.1.2.2.1) 0) = (42:UInt8)))) (some (Sum.inl ((p.1.1, p.1.2.1, (w64 (p.1.2.2.1 + (1:Int))), p.1.2.2.2.1, (), (), ()), (((w64 (p.1.2.2.1 + (1:Int))), p.1.2.2.2.1, ()), ((-1:Int), (0:Int), ()), ())))) (cond (((decide ((0:Int) ≤ p.1.2.2.1)) && (decide (p.1.2.2.1 < (((List.length p.1.1) : Nat) : Int)))) || (!(decide (p.1.2.2.1 < (((List.length p.1.1) : Nat) : Int))))) (cond ((decide (p.1.2.2.1 < (((List.length p.1.1) : Nat) : Int))) && (decide ((List.getD p.1.1 (Int.toNat p.1.2.2.1) 0) = (37:UInt8)))) (some (Sum.inl ((p.1.1, p.1.2.1, (w64 (p.1.2.2.1 + (1:Int))), p.1.2.2.2.1, (), (), ()), ((p.2.1.1, p.2.1.2.1, ()), ((w64 (p.1.2.2.1 + (1:Int))), p.1.2.2.2.1, ()), ())))) (cond ((decide (p.1.2.2.1 = (((List.length p.1.1) : Nat) : Int))) && (decide (p.1.2.2.2.1 = (((List.length p.1.2.1) : Nat) : Int)))) (some (Sum.inr ((true, ()), ()))) (cond (((decide ((0:Int) ≤ p.1.2.2.1)) && (decide (p.1.2.2.1 < (((List.length p.1.1) : Nat) : Int)))) || (!((decide (p.1.2.2.1 < (((List.length p.1.1) : Nat) : Int))) && (decide (p.1.2.2.2.1 < (((List.length p.1.2.1) : Nat) : Int)))))) (cond (((decide ((0:Int) ≤ p.1.2.2.2.1)) && (decide (p.1.2.2.2.1 < (((List.length p.1.2.1) : Nat) : Int)))) || (!((decide (p.1.2.2.1 < (((List.length p.1.1) : Nat) : Int))) && (decide (p.1.2.2.2.1 < (((List.length p.1.2.1) : Nat) : Int)))))) (cond (((decide (p.1.2.2.1 < (((List.length p.1.1) : Nat) : Int))) && (decide (p.1.2.2.2.1 < (((List.length p.1.2.1) : Nat) : Int)))) && (decide ((List.getD p.1.1 (Int.toNat p.1.2.2.1) 0) = (List.getD p.1.2.1 (Int.toNat p.1.2.2.2.1) 0)))) (some (Sum.inl ((p.1.1, p.1.2.1, (w64 (p.1.2.2.1 + (1:Int))), (w64 (p.1.2.2.2.1 + (1:Int))), (), (), ()), ((p.2.1.1, p.2.1.2.1, ()), (p.2.2.1.1, p.2.2.1.2.1, ()), ())))) (cond (((decide ((0:Int) ≤ p.2.2.1.2.1)) && (decide (p.2.2.1.2.1 < (((List.length p.1.2.1) : Nat) : Int)))) || (!((decide ((0:Int) ≤ p.2.2.1.1)) && (decide (p.2.2.1.2.1 < (((List.length p.1.2.1) : Nat) : Int)))))) (cond (((decide ((0:Int) ≤ p.2.2.1.1)) && (decide (p.2.2.1.2.1 < (((List.length p.1.2.1) : Nat) : Int)))) && (!decide ((List.getD p.1.2.1 (Int.toNat p.2.2.1.2.1) 0) = (47:UInt8)))) (some (Sum.inl ((p.1.1, p.1.2.1, p.2.2.1.1, (w64 (p.2.2.1.2.1 + (1:Int))), (), (), ()), ((p.2.1.1, p.2.1.2.1, ()), (p.2.2.1.1, (w64 (p.2.2.1.2.1 + (1:Int))), ()), ())))) (cond ((decide ((0:Int) ≤ p.2.1.1)) && (decide (p.2.1.2.1 < (((List.length p.1.2.1) : Nat) : Int)))) (some (Sum.inl ((p.1.1, p.1.2.1, p.2.1.1, (w64 (p.2.1.2.1 + (1:Int))), (), (), ()), ((p.2.1.1, (w64 (p.2.1.2.1 + (1:Int))), ()), ((-1:Int), p.2.2.1.2.1, ()), ())))) (some (Sum.inr ((false, ()), ()))))) none)) none) none))) none)) none)
def L26_0 (p : (((List UInt8) × (List UInt8) × Int × Int × Unit × Unit × Unit) × ((Int × Int × Unit) × (Int × Int × Unit) × Unit))) : Option ((Bool × Unit) × Unit) := loopOf B26_0 p
def H26_0 : HT := .leaf
def F26 (p : ((List UInt8) × (List UInt8) × Unit) × Unit) : Option (Bool × Unit) := (Option.bind (L26_0 ((p.1.1, p.1.2.1, (0:Int), (0:Int), (), (), ()), (((-1:Int), (0:Int), ()), ((-1:Int), (0:Int), ()), ()))) fun p1 => (some (p1.1.1, ())))
def O26 : Orc := ⟨(.cons .s (.cons .s .nil)), [], .b, [], F26⟩
def H26 : HT := (.two .leaf (.two .leaf (.two .leaf (.one (.loop S26_0 U26_0 L26_0 H26_0)))))
def X26 : List (FuncId × Orc) := []
def Y26 : List (FuncId × (List AV → Option AV)) := []
def Z26 : List (FuncId × Deed) := []
def I26 : List FuncId := []
theorem round26_0 (p) : round Go.Proofs.Tryd.prog (callX Go.Proofs.Tryd.prog (lookX X26) (lookM X26) (lookY Y26) (lookZ Z26) (hasN I26) 6) (mild (lookM X26) (lookY Y26)) 0 125 (subc (bodyOf Go.Proofs.Tryd.f26) [true, true, true, false, false]) H26_0 S26_0 U26_0 p = B26_0 p := by kernel_rfl
theorem run26 (p) : evTop Go.Proofs.Tryd.prog (callX Go.Proofs.Tryd.prog (lookX X26) (lookM X26) (lookY Y26) (lookZ Z26) (hasN I26) 6) (mild (lookM X26) (lookY Y26)) Go.Proofs.Tryd.f26 H26 O26 p = F26 p := by kernel_rfl
theorem ok26 : O26.OK Go.Proofs.Tryd.prog 26 :=
  ok_of mixed (X := X26) (Y := Y26) (Z := Z26) (I := I26) (d := 6) trivial trivial trivial trivial (by kernel_rfl) Go.Proofs.Tryd.func26 Go.Proofs.Tryd.call26 (c := bodyOf Go.Proofs.Tryd.f26) (by kernel_rfl) (h := H26) (by kernel_rfl)
    (ls := [⟨subc (bodyOf Go.Proofs.Tryd.f26) [true, true, true, false, false], H26_0, S26_0, U26_0, L26_0⟩]) (by kernel_rfl) ⟨LoopRec.of rfl round26_0, trivial⟩ run26

/-! pigeonhole/glob.Match -/
def F10 (p : ((List UInt8) × (List UInt8) × Unit) × Unit) : Option (Bool × Unit) := (cond ((decide ((5:Int) ≤ (((List.length p.1.1) : Nat) : Int))) || (!((decide ((5:Int) ≤ (((List.length p.1.1) : Nat) : Int))) && (decide ((5:Int) ≤ (((List.length p.1.2.1) : Nat) : Int)))))) (cond ((decide ((5:Int) ≤ (((List.length p.1.1) : Nat) : Int))) && (decide ((5:Int) ≤ (((List.length p.1.2.1) : Nat) : Int)))) (Option.bind (F25 (((List.take 5 p.1.1), ([105, 110, 98, 111, 120]:List UInt8), ()), ())) fun r1 => (cond ((decide ((5:Int) ≤ (((List.length p.1.2.1) : Nat) : Int))) || (!r1.1)) (cond r1.1 (Option.bind (F25 (((List.take 5 p.1.2.1), ([105, 110, 98, 111, 120]:List UInt8), ()), ())) fun r2 => (cond ((decide ((5:Int) < (((List.length p.1.2.1) : Nat) : Int))) || ((decide ((((List.length p.1.2.1) : Nat) : Int) = (5:Int))) || (!r2.1))) (cond (r2.1 && ((decide ((((List.length p.1.2.1) : Nat) : Int) = (5:Int))) || (decide ((List.getD p.1.2.1 5 0) = (47:UInt8))))) (cond ((decide ((5:Int) ≤ (((List.length p.1.1) : Nat) : Int))) && (decide ((((List.length p.1.1) : Nat) : Int) ≤ (((List.length p.1.1) : Nat) : Int)))) (cond ((decide ((5:Int) ≤ (((List.length p.1.2.1) : Nat) : Int))) && (decide ((((List.length p.1.2.1) : Nat) : Int) ≤ (((List.length p.1.2.1) : Nat) : Int)))) (Option.bind (F26 (((List.take ((Int.toNat (((List.length p.1.1) : Nat) : Int)) - 5) (List.drop 5 p.1.1)), (List.take ((Int.toNat (((List.length p.1.2.1) : Nat) : Int)) - 5) (List.drop 5 p.1.2.1)), ()), ())) fun r3 => (some (r3.1, ()))) none) none) (Option.bind (F26 ((p.1.1, p.1.2.1, ()), ())) fun r4 => (some (r4.1, ())))) none)) (Option.bind (F26 ((p.1.1, p.1.2.1, ()), ())) fun r5 => (some (r5.1, ())))) none)) (Option.bind (F26 ((p.1.1, p.1.2.1, ()), ())) fun r6 => (some (r6.1, ())))) none)
def O10 : Orc := ⟨(.cons .s (.cons .s .nil)), [], .b, [], F10⟩
def H10 : HT := .leaf
def X10 : List (FuncId × Orc) := [(25, O25), (26, O26)]
def Y10 : List (FuncId × (List AV → Option AV)) := []
def Z10 : List (FuncId × Deed) := []
def I10 : List FuncId := []
theorem run10 (p) : evTop Go.Proofs.Tryd.prog (callX Go.Proofs.Tryd.prog (lookX X10) (lookM X10) (lookY Y10) (lookZ Z10) (hasN I10) 6) (mild (lookM X10) (lookY Y10)) Go.Proofs.Tryd.f10 H10 O10 p = F10 p := by kernel_rfl
theorem ok10 : O10.OK Go.Proofs.Tryd.prog 10 :=
  ok_of mixed (X := X10) (Y := Y10) (Z := Z10) (I := I10) (d := 6) ⟨ok25, ⟨ok26, trivial⟩⟩ trivial trivial trivial (by kernel_rfl) Go.Proofs.Tryd.func10 Go.Proofs.Tryd.call10 (c := bodyOf Go.Proofs.Tryd.f10) (by kernel_rfl) (h := H10) (by kernel_rfl)
    (ls := []) (by kernel_rfl) trivial run10

/-! unicode/utf8.RuneCountInString -/
def S66_0 : Shape := ⟨[(2, (.i .i64)), (4, (.ptr 0 0))], [(0, .iter)], 1⟩
def U66_0 : Outs := [((.exit 0), ⟨[(2, (.i .i64))], [], 0⟩)]
def B66_0 (p : ((Int × Unit × Unit) × ((List UInt8 × Nat) × Unit))) : Option (((Int × Unit × Unit) × ((List UInt8 × Nat) × Unit)) ⊕ ((Int × Unit) × Unit)) := (cond (decide (p.2.1.2 < List.length p.2.1.1)) (some (Sum.inl (((w64 (p.1.1 + (1:Int))), (), ()), ((p.2.1.1, (p.2.1.2 + (Go.Utf8.decode ⟨List.toArray p.2.1.1⟩ p.2.1.2).2)), ())))) (some (Sum.inr ((p.1.1, ()), ()))))
def L66_0 (p : ((Int × Unit × Unit) × ((List UInt8 × Nat) × Unit))) : Option ((Int × Unit) × Unit) := loopOf B66_0 p
def H66_0 : HT := .leaf
def F66 (p : ((List UInt8) × Unit) × Unit) : Option (Int × Unit) := (Option.bind (Option.bind (L66_0 (((0:Int), (), ()), ((p.1.1, 0), ()))) fun p1 => (some ((p1.1.1, ()), ()))) fun p2 => (some (p2.1.1, ())))
def O66 : Orc := ⟨(.cons .s .nil), [], (.i .i64), [], F66⟩
def H66 : HT := (.two .leaf (.two (.join [(.normal, ⟨[(2, (.i .i64))], [], 0⟩)] (.two .leaf (.one (.loop S66_0 U66_0 L66_0 H66_0)))) .leaf))
def X66 : List (FuncId × Orc) := []
def Y66 : List (FuncId × (List AV → Option AV)) := []
def Z66 : List (FuncId × Deed) := []
def I66 : List FuncId := []
theorem round66_0 (p) : round Go.Proofs.Tryd.prog (callX Go.Proofs.Tryd.prog (lookX X66) (lookM X66) (lookY Y66) (lookZ Z66) (hasN I66) 6) (mild (lookM X66) (lookY Y66)) 0 10 (subc (bodyOf Go.Proofs.Tryd.f66) [true, false, true, false, false]) H66_0 S66_0 U66_0 p = B66_0 p := by kernel_rfl
theorem run66 (p) : evTop Go.Proofs.Tryd.prog (callX Go.Proofs.Tryd.prog (lookX X66) (lookM X66) (lookY Y66) (lookZ Z66) (hasN I66) 6) (mild (lookM X66) (lookY Y66)) Go.Proofs.Tryd.f66 H66 O66 p = F66 p := by kernel_rfl
theorem ok66 : O66.OK Go.Proofs.Tryd.prog 66 :=
  ok_of mixed (X := X66) (Y := Y66) (Z := Z66) (I := I66) (d := 6) trivial trivial trivial trivial (by kernel_rfl) Go.Proofs.Tryd.func66 Go.Proofs.Tryd.call66 (c := bodyOf Go.Proofs.Tryd.f66) (by kernel_rfl) (h := H66) (by kernel_rfl)
    (ls := [⟨subc (bodyOf Go.Proofs.Tryd.f66) [true, false, true, false, false], H66_0, S66_0, U66_0, L66_0⟩]) (by kernel_rfl) ⟨LoopRec.of rfl round66_0, trivial⟩ run66

/-! internal/stringslite.IndexByte -/
def F79 (p : ((List UInt8) × UInt8 × Unit) × Unit) : Option (Int × Unit) := (some ((Go.Lib.indexByte p.1.1 p.1.2.1), ()))
def O79 : Orc := ⟨(.cons .s (.cons .u .nil)), [], (.i .i64), [], F79⟩
def H79 : HT := .leaf
def X79 : List (FuncId × Orc) := []
def Y79 : List (FuncId × (List AV → Option AV)) := [(84, nvIndexByte)]
def Z79 : List (FuncId × Deed) := []
def I79 : List FuncId := []
theorem run79 (p) : evTop Go.Proofs.Tryd.prog (callX Go.Proofs.Tryd.prog (lookX X79) (lookM X79) (lookY Y79) (lookZ Z79) (hasN I79) 6) (mild (lookM X79) (lookY Y79)) Go.Proofs.Tryd.f79 H79 O79 p = F79 p := by kernel_rfl
theorem ok79 : O79.OK Go.Proofs.Tryd.prog 79 :=
  ok_of mixed (X := X79) (Y := Y79) (Z := Z79) (I := I79) (d := 6) trivial ⟨.inl (nvIndexByte_ok Go.Proofs.Tryd.func84 (by kernel_rfl) (by kernel_rfl) (by kernel_rfl) (by kernel_rfl)), trivial⟩ trivial trivial (by kernel_rfl) Go.Proofs.Tryd.func79 Go.Proofs.Tryd.call79 (c := bodyOf Go.Proofs.Tryd.f79) (by kernel_rfl) (h := H79) (by kernel_rfl)
    (ls := []) (by kernel_rfl) trivial run79

/-! internal/bytealg.Cutover -/
def F81 (p : (Int × Unit) × Unit) : Option (Int × Unit) := (some ((w64 (Int.tdiv (w64 (p.1.1 + (16:Int))) (8:Int))), ()))
def O81 : Orc := ⟨(.cons (.i .i64) .nil), [], (.i .i64), [], F81⟩
def H81 : HT := .leaf
def X81 : List (FuncId × Orc) := []
def Y81 : List (FuncId × (List AV → Option AV)) := []
def Z81 : List (FuncId × Deed) := []
def I81 : List FuncId := []
theorem run81 (p) : evTop Go.Proofs.Tryd.prog (callX Go.Proofs.Tryd.prog (lookX X81) (lookM X81) (lookY Y81) (lookZ Z81) (hasN I81) 6) (mild (lookM X81) (lookY Y81)) Go.Proofs.Tryd.f81 H81 O81 p = F81 p := by kernel_rfl
theorem ok81 : O81.OK Go.Proofs.Tryd.prog 81 :=
  ok_of mixed (X := X81) (Y := Y81) (Z := Z81) (I := I81) (d := 6) trivial trivial trivial trivial (by kernel_rfl) Go.Proofs.Tryd.func81 Go.Proofs.Tryd.call81 (c := bodyOf Go.Proofs.Tryd.f81) (by kernel_rfl) (h := H81) (by kernel_rfl)
    (ls := []) (by kernel_rfl) trivial run81

/-! internal/bytealg.hashStr[string] -/
def S85_1 : Shape := ⟨[(4, (.i .u32)), (6, (.i .u32)), (7, (.i .u32)), (8, (.i .i64))], [], 0⟩
def U85_1 : Outs := [((.exit 2), ⟨[(4, (.i .u32)), (6, (.i .u32))], [], 0⟩)]
def B85_1 (p : ((Int × Int × Int × Int × Unit) × Unit)) : Option (((Int × Int × Int × Int × Unit) × Unit) ⊕ ((Int × Int × Unit) × Unit)) := (cond (decide ((0:Int) < p.1.2.2.2.1)) (Option.bind (Option.bind (cond (!(decide ((bitsOf .and .i64 p.1.2.2.2.1 (1:Int)) = (0:Int)))) (some ((p.1.1, (Go.IntKind.wrap .u32 (p.1.2.1 * p.1.2.2.1)), p.1.2.2.1, p.1.2.2.2.1, ()), ())) (some ((p.1.1, p.1.2.1, p.1.2.2.1, p.1.2.2.2.1, ()), ()))) fun p5 => (some ((p5.1.1, p5.1.2.1, (Go.IntKind.wrap .u32 (p5.1.2.2.1 * p5.1.2.2.1)), p5.1.2.2.2.1, ()), ()))) fun p6 => (some (Sum.inl ((p6.1.1, p6.1.2.1, p6.1.2.2.1, (Int.fdiv p6.1.2.2.2.1 (2 ^ 1)), ()), ())))) (some (Sum.inr ((p.1.1, p.1.2.1, ()), ()))))
def L85_1 (p : ((Int × Int × Int × Int × Unit) × Unit)) : Option ((Int × Int × Unit) × Unit) := loopOf B85_1 p
def H85_1 : HT := (.two .leaf (.two (.join [(.normal, ⟨[(4, (.i .u32)), (6, (.i .u32)), (7, (.i .u32)), (8, (.i .i64))], [], 0⟩)] (.one (.two (.join [(.normal, ⟨[(4, (.i .u32)), (6, (.i .u32)), (7, (.i .u32)), (8, (.i .i64))], [], 0⟩)] .leaf) .leaf))) .leaf))
def S85_0 : Shape := ⟨[(0, .s), (4, (.i .u32)), (5, (.i .i64))], [], 0⟩
def U85_0 : Outs := [((.exit 0), ⟨[(0, .s), (4, (.i .u32))], [], 0⟩)]
def B85_0 (p : (((List UInt8) × Int × Int × Unit) × Unit)) : Option ((((List UInt8) × Int × Int × Unit) × Unit) ⊕ (((List UInt8) × Int × Unit) × Unit)) := (cond (decide (p.1.2.2.1 < (((List.length p.1.1) : Nat) : Int))) (Option.bind (cond ((decide ((0:Int) ≤ p.1.2.2.1)) && (decide (p.1.2.2.1 < (((List.length p.1.1) : Nat) : Int)))) (some ((p.1.1, (Go.IntKind.wrap .u32 ((Go.IntKind.wrap .u32 (p.1.2.1 * (16777619:Int))) + ((UInt8.toNat (List.getD p.1.1 (Int.toNat p.1.2.2.1) 0) : Nat) : Int))), p.1.2.2.1, ()), ())) none) fun (p1 : (((List UInt8) × Int × Int × Unit) × Unit)) => (Option.bind (some ((p1.1.1, p1.1.2.1, (w64 (p1.1.2.2.1 + (1:Int))), ()), ())) fun p2 => (some (Sum.inl ((p2.1.1, p2.1.2.1, p2.1.2.2.1, ()), ()))))) (some (Sum.inr ((p.1.1, p.1.2.1, ()), ()))))
def L85_0 (p : (((List UInt8) × Int × Int × Unit) × Unit)) : Option (((List UInt8) × Int × Unit) × Unit) := loopOf B85_0 p
def H85_0 : HT := (.two .leaf (.two (.one (.join [(.normal, ⟨[(0, .s), (4, (.i .u32)), (5, (.i .i64))], [], 0⟩)] .leaf)) (.join [(.normal, ⟨[(0, .s), (4, (.i .u32)), (5, (.i .i64))], [], 0⟩)] .leaf)))
def F85 (p : ((List UInt8) × Unit) × Unit) : Option ((Int × Int × Unit) × Unit) := (Option.bind (Option.bind (L85_0 ((p.1.1, (0:Int), (0:Int), ()), ())) fun p3 => (some ((p3.1.1, p3.1.2.1, ()), ()))) fun p4 => (Option.bind (Option.bind (L85_1 ((p4.1.2.1, (1:Int), (16777619:Int), (((List.length p4.1.1) : Nat) : Int), ()), ())) fun p7 => (some ((p7.1.1, p7.1.2.1, ()), ()))) fun p8 => (some ((p8.1.1, p8.1.2.1, ()), ()))))
def O85 : Orc := ⟨(.cons .s .nil), [], (.tup (.cons (.i .u32) (.cons (.i .u32) .nil))), [], F85⟩
def H85 : HT := (.two .leaf (.two .leaf (.two (.join [(.normal, ⟨[(0, .s), (4, (.i .u32))], [], 0⟩)] (.two .leaf (.one (.loop S85_0 U85_0 L85_0 H85_0)))) (.two .leaf (.two (.join [(.normal, ⟨[(4, (.i .u32)), (6, (.i .u32))], [], 0⟩)] (.two .leaf (.one (.loop S85_1 U85_1 L85_1 H85_1)))) .leaf)))))
def X85 : List (FuncId × Orc) := []
def Y85 : List (FuncId × (List AV → Option AV)) := []
def Z85 : List (FuncId × Deed) := []
def I85 : List FuncId := []
theorem round85_1 (p) : round Go.Proofs.Tryd.prog (callX Go.Proofs.Tryd.prog (lookX X85) (lookM X85) (lookY Y85) (lookZ Z85) (hasN I85) 6) (mild (lookM X85) (lookY Y85)) 0 39 (subc (bodyOf Go.Proofs.Tryd.f85) [true, true, true, true, false, true, false, false]) H85_1 S85_1 U85_1 p = B85_1 p := by kernel_rfl
theorem round85_0 (p) : round Go.Proofs.Tryd.prog (callX Go.Proofs.Tryd.prog (lookX X85) (lookM X85) (lookY Y85) (lookZ Z85) (hasN I85) 6) (mild (lookM X85) (lookY Y85)) 0 39 (subc (bodyOf Go.Proofs.Tryd.f85) [true, true, false, true, false, false]) H85_0 S85_0 U85_0 p = B85_0 p := by kernel_rfl
theorem run85 (p) : evTop Go.Proofs.Tryd.prog (callX Go.Proofs.Tryd.prog (lookX X85) (lookM X85) (lookY Y85) (lookZ Z85) (hasN I85) 6) (mild (lookM X85) (lookY Y85)) Go.Proofs.Tryd.f85 H85 O85 p = F85 p := by kernel_rfl
theorem ok85 : O85.OK Go.Proofs.Tryd.prog 85 :=
  ok_of mixed (X := X85) (Y := Y85) (Z := Z85) (I := I85) (d := 6) trivial trivial trivial trivial (by kernel_rfl) Go.Proofs.Tryd.func85 Go.Proofs.Tryd.call85 (c := bodyOf Go.Proofs.Tryd.f85) (by kernel_rfl) (h := H85) (by kernel_rfl)
    (ls := [⟨subc (bodyOf Go.Proofs.Tryd.f85) [true, true, false, true, false, false], H85_0, S85_0, U85_0, L85_0⟩, ⟨subc (bodyOf Go.Proofs.Tryd.f85) [true, true, true, true, false, true, false, false], H85_1, S85_1, U85_1, L85_1⟩]) (by kernel_rfl) ⟨LoopRec.of rfl round85_0, ⟨LoopRec.of rfl round85_1, trivial⟩⟩ run85

/-! internal/bytealg.IndexRabinKarp[string] -/
def S82_1 : Shape := ⟨[(0, .s), (1, .s), (5, (.i .u32)), (6, (.i .u32)), (7, (.i .i64)), (8, (.i .u32)), (10, (.i .i64))], [], 0⟩
def U82_1 : Outs := [((.exit 2), ⟨[], [], 0⟩), (.ret, ⟨[(4, (.i .i64))], [], 0⟩)]
def B82_1 (p : (((List UInt8) × (List UInt8) × Int × Int × Int × Int × Int × Unit) × Unit)) : Option ((((List UInt8) × (List UInt8) × Int × Int × Int × Int × Int × Unit) × Unit) ⊕ ((Unit × Unit) ⊕ ((Int × Unit) × Unit))) := (cond (decide (p.1.2.2.2.2.2.2.1 < (((List.length p.1.1) : Nat) : Int))) (Option.bind (cond ((decide ((0:Int) ≤ p.1.2.2.2.2.2.2.1)) && (decide (p.1.2.2.2.2.2.2.1 < (((List.length p.1.1) : Nat) : Int)))) (some ((p.1.1, p.1.2.1, p.1.2.2.1, p.1.2.2.2.1, p.1.2.2.2.2.1, (Go.IntKind.wrap .u32 ((Go.IntKind.wrap .u32 (p.1.2.2.2.2.2.1 * (16777619:Int))) + ((UInt8.toNat (List.getD p.1.1 (Int.toNat p.1.2.2.2.2.2.2.1) 0) : Nat) : Int))), p.1.2.2.2.2.2.2.1, ()), ())) none) fun (p6 : (((List UInt8) × (List UInt8) × Int × Int × Int × Int × Int × Unit) × Unit)) => (Option.bind (cond ((decide ((0:Int) ≤ (w64 (p6.1.2.2.2.2.2.2.1 - p6.1.2.2.2.2.1)))) && (decide ((w64 (p6.1.2.2.2.2.2.2.1 - p6.1.2.2.2.2.1)) < (((List.length p6.1.1) : Nat) : Int)))) (some ((p6.1.1, p6.1.2.1, p6.1.2.2.1, p6.1.2.2.2.1, p6.1.2.2.2.2.1, (Go.IntKind.wrap .u32 (p6.1.2.2.2.2.2.1 - (Go.IntKind.wrap .u32 (p6.1.2.2.2.1 * ((UInt8.toNat (List.getD p6.1.1 (Int.toNat (w64 (p6.1.2.2.2.2.2.2.1 - p6.1.2.2.2.2.1))) 0) : Nat) : Int))))), p6.1.2.2.2.2.2.2.1, ()), ())) none) fun (p7 : (((List UInt8) × (List UInt8) × Int × Int × Int × Int × Int × Unit) × Unit)) => (Option.bind (some ((p7.1.1, p7.1.2.1, p7.1.2.2.1, p7.1.2.2.2.1, p7.1.2.2.2.2.1, p7.1.2.2.2.2.2.1, (w64 (p7.1.2.2.2.2.2.2.1 + (1:Int))), ()), ())) fun p8 => (Option.bind (cond ((((decide ((0:Int) ≤ (w64 (p8.1.2.2.2.2.2.2.1 - p8.1.2.2.2.2.1)))) && (decide ((w64 (p8.1.2.2.2.2.2.2.1 - p8.1.2.2.2.2.1)) ≤ p8.1.2.2.2.2.2.2.1))) && (decide (p8.1.2.2.2.2.2.2.1 ≤ (((List.length p8.1.1) : Nat) : Int)))) || (!(decide (p8.1.2.2.2.2.2.1 = p8.1.2.2.1)))) (some ((p8.1.1, p8.1.2.1, p8.1.2.2.1, p8.1.2.2.2.1, p8.1.2.2.2.2.1, p8.1.2.2.2.2.2.1, p8.1.2.2.2.2.2.2.1, ((decide (p8.1.2.2.2.2.2.1 = p8.1.2.2.1)) && (decide ((List.take ((Int.toNat p8.1.2.2.2.2.2.2.1) - (Int.toNat (w64 (p8.1.2.2.2.2.2.2.1 - p8.1.2.2.2.2.1)))) (List.drop (Int.toNat (w64 (p8.1.2.2.2.2.2.2.1 - p8.1.2.2.2.2.1))) p8.1.1)) = p8.1.2.1))), ()), ())) none) fun (p9 : (((List UInt8) × (List UInt8) × Int × Int × Int × Int × Int × Bool × Unit) × Unit)) => (cond p9.1.2.2.2.2.2.2.2.1 (some (Sum.inr (Sum.inr (((w64 (p9.1.2.2.2.2.2.2.1 - p9.1.2.2.2.2.1)), ()), ())))) (some (Sum.inl ((p9.1.1, p9.1.2.1, p9.1.2.2.1, p9.1.2.2.2.1, p9.1.2.2.2.2.1, p9.1.2.2.2.2.2.1, p9.1.2.2.2.2.2.2.1, ()), ())))))))) (some (Sum.inr (Sum.inl ((), ())))))
def L82_1 (p : (((List UInt8) × (List UInt8) × Int × Int × Int × Int × Int × Unit) × Unit)) : Option ((Unit × Unit) ⊕ ((Int × Unit) × Unit)) := loopOf B82_1 p
def H82_1 : HT := (.two .leaf (.one (.two .leaf (.two (.join [(.normal, ⟨[(0, .s), (1, .s), (5, (.i .u32)), (6, (.i .u32)), (7, (.i .i64)), (8, (.i .u32)), (10, (.i .i64))], [], 0⟩)] .leaf) (.two (.join [(.normal, ⟨[(0, .s), (1, .s), (5, (.i .u32)), (6, (.i .u32)), (7, (.i .i64)), (8, (.i .u32)), (10, (.i .i64))], [], 0⟩)] .leaf) (.two (.join [(.normal, ⟨[(0, .s), (1, .s), (5, (.i .u32)), (6, (.i .u32)), (7, (.i .i64)), (8, (.i .u32)), (10, (.i .i64))], [], 0⟩)] .leaf) (.two (.join [(.normal, ⟨[(0, .s), (1, .s), (5, (.i .u32)), (6, (.i .u32)), (7, (.i .i64)), (8, (.i .u32)), (10, (.i .i64)), (77, .b)], [], 0⟩)] .leaf) .leaf)))))))
def S82_0 : Shape := ⟨[(0, .s), (1, .s), (5, (.i .u32)), (6, (.i .u32)), (7, (.i .i64)), (8, (.i .u32)), (9, (.i .i64))], [], 0⟩
def U82_0 : Outs := [((.exit 0), ⟨[(0, .s), (1, .s), (5, (.i .u32)), (6, (.i .u32)), (7, (.i .i64)), (8, (.i .u32))], [], 0⟩)]
def B82_0 (p : (((List UInt8) × (List UInt8) × Int × Int × Int × Int × Int × Unit) × Unit)) : Option ((((List UInt8) × (List UInt8) × Int × Int × Int × Int × Int × Unit) × Unit) ⊕ (((List UInt8) × (List UInt8) × Int × Int × Int × Int × Unit) × Unit)) := (cond (decide (p.1.2.2.2.2.2.2.1 < p.1.2.2.2.2.1)) (Option.bind (cond ((decide ((0:Int) ≤ p.1.2.2.2.2.2.2.1)) && (decide (p.1.2.2.2.2.2.2.1 < (((List.length p.1.1) : Nat) : Int)))) (some ((p.1.1, p.1.2.1, p.1.2.2.1, p.1.2.2.2.1, p.1.2.2.2.2.1, (Go.IntKind.wrap .u32 ((Go.IntKind.wrap .u32 (p.1.2.2.2.2.2.1 * (16777619:Int))) + ((UInt8.toNat (List.getD p.1.1 (Int.toNat p.1.2.2.2.2.2.2.1) 0) : Nat) : Int))), p.1.2.2.2.2.2.2.1, ()), ())) none) fun (p2 : (((List UInt8) × (List UInt8) × Int × Int × Int × Int × Int × Unit) × Unit)) => (Option.bind (some ((p2.1.1, p2.1.2.1, p2.1.2.2.1, p2.1.2.2.2.1, p2.1.2.2.2.2.1, p2.1.2.2.2.2.2.1, (w64 (p2.1.2.2.2.2.2.2.1 + (1:Int))), ()), ())) fun p3 => (some (Sum.inl ((p3.1.1, p3.1.2.1, p3.1.2.2.1, p3.1.2.2.2.1, p3.1.2.2.2.2.1, p3.1.2.2.2.2.2.1, p3.1.2.2.2.2.2.2.1, ()), ()))))) (some (Sum.inr ((p.1.1, p.1.2.1, p.1.2.2.1, p.1.2.2.2.1, p.1.2.2.2.2.1, p.1.2.2.2.2.2.1, ()), ()))))
def L82_0 (p : (((List UInt8) × (List UInt8) × Int × Int × Int × Int × Int × Unit) × Unit)) : Option (((List UInt8) × (List UInt8) × Int × Int × Int × Int × Unit) × Unit) := loopOf B82_0 p
def H82_0 : HT := (.two .leaf (.two (.one (.join [(.normal, ⟨[(0, .s), (1, .s), (5, (.i .u32)), (6, (.i .u32)), (7, (.i .i64)), (8, (.i .u32)), (9, (.i .i64))], [], 0⟩)] .leaf)) (.join [(.normal, ⟨[(0, .s), (1, .s), (5, (.i .u32)), (6, (.i .u32)), (7, (.i .i64)), (8, (.i .u32)), (9, (.i .i64))], [], 0⟩)] .leaf)))
def F82 (p : ((List UInt8) × (List UInt8) × Unit) × Unit) : Option (Int × Unit) := (Option.bind (F85 ((p.1.2.1, ()), ())) fun r1 => (Option.bind (Option.bind (L82_0 ((p.1.1, p.1.2.1, r1.1.1, r1.1.2.1, (((List.length p.1.2.1) : Nat) : Int), (0:Int), (0:Int), ()), ())) fun p4 => (some ((p4.1.1, p4.1.2.1, p4.1.2.2.1, p4.1.2.2.2.1, p4.1.2.2.2.2.1, p4.1.2.2.2.2.2.1, ()), ()))) fun p5 => (cond (((decide ((0:Int) ≤ p5.1.2.2.2.2.1)) && (decide (p5.1.2.2.2.2.1 ≤ (((List.length p5.1.1) : Nat) : Int)))) || (!(decide (p5.1.2.2.2.2.2.1 = p5.1.2.2.1)))) (cond ((decide (p5.1.2.2.2.2.2.1 = p5.1.2.2.1)) && (decide ((List.take (Int.toNat p5.1.2.2.2.2.1) p5.1.1) = p5.1.2.1))) (some ((0:Int), ())) (Option.bind (Option.bind (L82_1 ((p5.1.1, p5.1.2.1, p5.1.2.2.1, p5.1.2.2.2.1, p5.1.2.2.2.2.1, p5.1.2.2.2.2.2.1, p5.1.2.2.2.2.1, ()), ())) fun p10 => (match p10 with | Sum.inl p11 => (some (Sum.inl ((), ()))) | Sum.inr q11 => (some (Sum.inr ((q11.1.1, ()), ()))))) fun p12 => (match p12 with | Sum.inl p13 => (some ((-1:Int), ())) | Sum.inr q13 => (some (q13.1.1, ()))))) none)))
def O82 : Orc := ⟨(.cons .s (.cons .s .nil)), [], (.i .i64), [], F82⟩
def H82 : HT := (.two .leaf (.two .leaf (.two .leaf (.two .leaf (.two (.join [(.normal, ⟨[(0, .s), (1, .s), (5, (.i .u32)), (6, (.i .u32)), (7, (.i .i64)), (8, (.i .u32))], [], 0⟩)] (.two .leaf (.one (.loop S82_0 U82_0 L82_0 H82_0)))) (.two .leaf (.two (.join [(.normal, ⟨[], [], 0⟩), (.ret, ⟨[(4, (.i .i64))], [], 0⟩)] (.two .leaf (.one (.loop S82_1 U82_1 L82_1 H82_1)))) .leaf)))))))
def X82 : List (FuncId × Orc) := [(85, O85)]
def Y82 : List (FuncId × (List AV → Option AV)) := []
def Z82 : List (FuncId × Deed) := []
def I82 : List FuncId := []
theorem round82_1 (p) : round Go.Proofs.Tryd.prog (callX Go.Proofs.Tryd.prog (lookX X82) (lookM X82) (lookY Y82) (lookZ Z82) (hasN I82) 6) (mild (lookM X82) (lookY Y82)) 0 81 (subc (bodyOf Go.Proofs.Tryd.f82) [true, true, true, true, true, true, false, true, false, false]) H82_1 S82_1 U82_1 p = B82_1 p := by kernel_rfl
theorem round82_0 (p) : round Go.Proofs.Tryd.prog (callX Go.Proofs.Tryd.prog (lookX X82) (lookM X82) (lookY Y82) (lookZ Z82) (hasN I82) 6) (mild (lookM X82) (lookY Y82)) 0 81 (subc (bodyOf Go.Proofs.Tryd.f82) [true, true, true, true, false, true, false, false]) H82_0 S82_0 U82_0 p = B82_0 p := by kernel_rfl
theorem run82 (p) : evTop Go.Proofs.Tryd.prog (callX Go.Proofs.Tryd.prog (lookX X82) (lookM X82) (lookY Y82) (lookZ Z82) (hasN I82) 6) (mild (lookM X82) (lookY Y82)) Go.Proofs.Tryd.f82 H82 O82 p = F82 p := by kernel_rfl
theorem ok82 : O82.OK Go.Proofs.Tryd.prog 82 :=
  ok_of mixed (X := X82) (Y := Y82) (Z := Z82) (I := I82) (d := 6) ⟨ok85, trivial⟩ trivial trivial trivial (by kernel_rfl) Go.Proofs.Tryd.func82 Go.Proofs.Tryd.call82 (c := bodyOf Go.Proofs.Tryd.f82) (by kernel_rfl) (h := H82) (by kernel_rfl)
    (ls := [⟨subc (bodyOf Go.Proofs.Tryd.f82) [true, true, true, true, false, true, false, false], H82_0, S82_0, U82_0, L82_0⟩, ⟨subc (bodyOf Go.Proofs.Tryd.f82) [true, true, true, true, true, true, false, true, false, false], H82_1, S82_1, U82_1, L82_1⟩]) (by kernel_rfl) ⟨LoopRec.of rfl round82_0, ⟨LoopRec.of rfl round82_1, trivial⟩⟩ run82

/-! internal/stringslite.Index -/
def F69 (p : ((List UInt8) × Unit × Unit) × Unit) : Option (Int × Unit) := (cond (false || (decide (([47]:List UInt8) = p.1.1))) (some ((0:Int), ())) (Option.bind (F79 ((p.1.1, (List.getD ([47]:List UInt8) 0 0), ()), ())) fun r1 => (some (r1.1, ()))))
def O69 : Orc := ⟨(.cons .s (.cons (.ks ([47]:List UInt8)) .nil)), [], (.i .i64), [], F69⟩
def H69 : HT := .leaf
def X69 : List (FuncId × Orc) := [(79, O79)]
def Y69 : List (FuncId × (List AV → Option AV)) := []
def Z69 : List (FuncId × Deed) := []
def I69 : List FuncId := []
theorem run69 (p) : evTop Go.Proofs.Tryd.prog (callX Go.Proofs.Tryd.prog (lookX X69) (lookM X69) (lookY Y69) (lookZ Z69) (hasN I69) 6) (mild (lookM X69) (lookY Y69)) Go.Proofs.Tryd.f69 H69 O69 p = F69 p := by kernel_rfl
theorem ok69 : O69.OK Go.Proofs.Tryd.prog 69 :=
  ok_of mixed (X := X69) (Y := Y69) (Z := Z69) (I := I69) (d := 6) ⟨ok79, trivial⟩ trivial trivial trivial (by kernel_rfl) Go.Proofs.Tryd.func69 Go.Proofs.Tryd.call69 (c := bodyOf Go.Proofs.Tryd.f69) (by kernel_rfl) (h := H69) (by kernel_rfl)
    (ls := []) (by kernel_rfl) trivial run69

/-! strings.Index -/
def F52 (p : ((List UInt8) × Unit × Unit) × Unit) : Option (Int × Unit) := (Option.bind (F69 ((p.1.1, (), ()), ())) fun r1 => (some (r1.1, ())))
def O52 : Orc := ⟨(.cons .s (.cons (.ks ([47]:List UInt8)) .nil)), [], (.i .i64), [], F52⟩
def H52 : HT := .leaf
def X52 : List (FuncId × Orc) := [(69, O69)]
def Y52 : List (FuncId × (List AV → Option AV)) := []
def Z52 : List (FuncId × Deed) := []
def I52 : List FuncId := []
theorem run52 (p) : evTop Go.Proofs.Tryd.prog (callX Go.Proofs.Tryd.prog (lookX X52) (lookM X52) (lookY Y52) (lookZ Z52) (hasN I52) 6) (mild (lookM X52) (lookY Y52)) Go.Proofs.Tryd.f52 H52 O52 p = F52 p := by kernel_rfl
theorem ok52 : O52.OK Go.Proofs.Tryd.prog 52 :=
  ok_of mixed (X := X52) (Y := Y52) (Z := Z52) (I := I52) (d := 6) ⟨ok69, trivial⟩ trivial trivial trivial (by kernel_rfl) Go.Proofs.Tryd.func52 Go.Proofs.Tryd.call52 (c := bodyOf Go.Proofs.Tryd.f52) (by kernel_rfl) (h := H52) (by kernel_rfl)
    (ls := []) (by kernel_rfl) trivial run52

/-! strings.Count -/
def F51 (p : ((List UInt8) × Unit × Unit) × Unit) : Option (Int × Unit) := (some (((Go.Lib.countByte p.1.1 (List.getD ([47]:List UInt8) 0 0) : Nat) : Int), ()))
def O51 : Orc := ⟨(.cons .s (.cons (.ks ([47]:List UInt8)) .nil)), [], (.i .i64), [], F51⟩
def H51 : HT := .leaf
def X51 : List (FuncId × Orc) := []
def Y51 : List (FuncId × (List AV → Option AV)) := [(68, nvCount)]
def Z51 : List (FuncId × Deed) := []
def I51 : List FuncId := []
theorem run51 (p) : evTop Go.Proofs.Tryd.prog (callX Go.Proofs.Tryd.prog (lookX X51) (lookM X51) (lookY Y51) (lookZ Z51) (hasN I51) 6) (mild (lookM X51) (lookY Y51)) Go.Proofs.Tryd.f51 H51 O51 p = F51 p := by kernel_rfl
theorem ok51 : O51.OK Go.Proofs.Tryd.prog 51 :=
  ok_of mixed (X := X51) (Y := Y51) (Z := Z51) (I := I51) (d := 6) trivial ⟨.inl (nvCount_ok Go.Proofs.Tryd.func68 (by kernel_rfl) (by kernel_rfl) (by kernel_rfl) (by kernel_rfl)), trivial⟩ trivial trivial (by kernel_rfl) Go.Proofs.Tryd.func51 Go.Proofs.Tryd.call51 (c := bodyOf Go.Proofs.Tryd.f51) (by kernel_rfl) (h := H51) (by kernel_rfl)
    (ls := []) (by kernel_rfl) trivial run51

/-! strings.genSplit -/
def S41_0 : Shape := ⟨[(0, .s), (1, (.ks ([47]:List UInt8))), (2, (.ki .i64 (0))), (3, (.i .i64)), (9, (.own 0)), (10, (.i .i64))], [(0, (.data .str))], 1⟩
def U41_0 : Outs := [((.exit 0), ⟨[(0, .s), (9, (.own 0)), (10, (.i .i64))], [(0, (.data .str))], 1⟩)]
def B41_0 (p : (((List UInt8) × Unit × Unit × Int × Unit × Int × Unit) × ((List (List UInt8)) × Unit))) : Option ((((List UInt8) × Unit × Unit × Int × Unit × Int × Unit) × ((List (List UInt8)) × Unit)) ⊕ (((List UInt8) × Unit × Int × Unit) × ((List (List UInt8)) × Unit))) := (cond (decide (p.1.2.2.2.2.2.1 < p.1.2.2.2.1)) (Option.bind (F52 ((p.1.1, (), ()), ())) fun r7 => (cond (decide (r7.1 < (0:Int))) (some (Sum.inr ((p.1.1, (), p.1.2.2.2.2.2.1, ()), (p.2.1, ())))) (Option.bind (cond ((decide ((0:Int) ≤ (w64 (r7.1 + (0:Int))))) && (decide ((w64 (r7.1 + (0:Int))) ≤ (((List.length p.1.1) : Nat) : Int)))) (cond ((decide ((0:Int) ≤ p.1.2.2.2.2.2.1)) && (decide (p.1.2.2.2.2.2.1 < (((List.length p.2.1) : Nat) : Int)))) (some ((p.1.1, (), (), p.1.2.2.2.1, (), p.1.2.2.2.2.2.1, r7.1, ()), ((List.set p.2.1 (Int.toNat p.1.2.2.2.2.2.1) (List.take (Int.toNat (w64 (r7.1 + (0:Int)))) p.1.1)), ()))) none) none) fun (p8 : (((List UInt8) × Unit × Unit × Int × Unit × Int × Int × Unit) × ((List (List UInt8)) × Unit))) => (Option.bind (cond (((decide ((0:Int) ≤ (w64 (p8.1.2.2.2.2.2.2.1 + (1:Int))))) && (decide ((w64 (p8.1.2.2.2.2.2.2.1 + (1:Int))) ≤ (((List.length p8.1.1) : Nat) : Int)))) && (decide ((((List.length p8.1.1) : Nat) : Int) ≤ (((List.length p8.1.1) : Nat) : Int)))) (some (((List.take ((Int.toNat (((List.length p8.1.1) : Nat) : Int)) - (Int.toNat (w64 (p8.1.2.2.2.2.2.2.1 + (1:Int))))) (List.drop (Int.toNat (w64 (p8.1.2.2.2.2.2.2.1 + (1:Int)))) p8.1.1)), (), (), p8.1.2.2.2.1, (), p8.1.2.2.2.2.2.1, ()), (p8.2.1, ()))) none) fun (p9 : (((List UInt8) × Unit × Unit × Int × Unit × Int × Unit) × ((List (List UInt8)) × Unit))) => (Option.bind (some ((p9.1.1, (), (), p9.1.2.2.2.1, (), (w64 (p9.1.2.2.2.2.2.1 + (1:Int))), ()), (p9.2.1, ()))) fun p10 => (some (Sum.inl ((p10.1.1, (), (), p10.1.2.2.2.1, (), p10.1.2.2.2.2.2.1, ()), (p10.2.1, ()))))))))) (some (Sum.inr ((p.1.1, (), p.1.2.2.2.2.2.1, ()), (p.2.1, ())))))
def L41_0 (p : (((List UInt8) × Unit × Unit × Int × Unit × Int × Unit) × ((List (List UInt8)) × Unit))) : Option (((List UInt8) × Unit × Int × Unit) × ((List (List UInt8)) × Unit)) := loopOf B41_0 p
def H41_0 : HT := (.two .leaf (.one (.two .leaf (.two .leaf (.two (.join [(.normal, ⟨[(0, .s), (1, (.ks ([47]:List UInt8))), (2, (.ki .i64 (0))), (3, (.i .i64)), (9, (.own 0)), (10, (.i .i64)), (11, (.i .i64))], [(0, (.data .str))], 1⟩)] .leaf) (.two (.join [(.normal, ⟨[(0, .s), (1, (.ks ([47]:List UInt8))), (2, (.ki .i64 (0))), (3, (.i .i64)), (9, (.own 0)), (10, (.i .i64))], [(0, (.data .str))], 1⟩)] .leaf) (.join [(.normal, ⟨[(0, .s), (1, (.ks ([47]:List UInt8))), (2, (.ki .i64 (0))), (3, (.i .i64)), (9, (.own 0)), (10, (.i .i64))], [(0, (.data .str))], 1⟩)] .leaf)))))))
def F41 (p : ((List UInt8) × Unit × Unit × Unit × Unit) × Unit) : Option ((List (List UInt8)) × Unit) := (Option.bind (Option.bind (F51 ((p.1.1, (), ()), ())) fun r1 => (some ((p.1.1, (), (), (w64 (r1.1 + (1:Int))), ()), ()))) fun p2 => (Option.bind (some ((p2.1.1, (), (), (cond (decide ((w64 ((((List.length p2.1.1) : Nat) : Int) + (1:Int))) < p2.1.2.2.2.1)) (w64 ((((List.length p2.1.1) : Nat) : Int) + (1:Int))) p2.1.2.2.2.1), ()), ())) fun p3 => (Option.bind (cond (((decide ((0:Int) ≤ p3.1.2.2.2.1)) && (decide (p3.1.2.2.2.1 ≤ p3.1.2.2.2.1))) && (bytesOK (Int.toNat p3.1.2.2.2.1) 16)) (some ((p3.1.1, (), (), p3.1.2.2.2.1, (), ()), ((List.replicate (Int.toNat p3.1.2.2.2.1) ([]:List UInt8)), ()))) none) fun (p4 : (((List UInt8) × Unit × Unit × Int × Unit × Unit) × ((List (List UInt8)) × Unit))) => (Option.bind (some ((p4.1.1, (), (), (w64 (p4.1.2.2.2.1 - (1:Int))), (), ()), (p4.2.1, ()))) fun p5 => (Option.bind (some ((p5.1.1, (), (), p5.1.2.2.2.1, (), (), ()), (p5.2.1, ()))) fun p6 => (Option.bind (Option.bind (L41_0 ((p6.1.1, (), (), p6.1.2.2.2.1, (), (0:Int), ()), (p6.2.1, ()))) fun p11 => (some ((p11.1.1, (), p11.1.2.2.1, ()), (p11.2.1, ())))) fun p12 => (cond ((decide ((0:Int) ≤ p12.1.2.2.1)) && (decide (p12.1.2.2.1 < (((List.length p12.2.1) : Nat) : Int)))) (cond ((decide ((0:Int) ≤ (w64 (p12.1.2.2.1 + (1:Int))))) && (decide ((w64 (p12.1.2.2.1 + (1:Int))) ≤ (((List.length (List.set p12.2.1 (Int.toNat p12.1.2.2.1) p12.1.1)) : Nat) : Int)))) (some ((List.take (Int.toNat (w64 (p12.1.2.2.1 + (1:Int)))) (List.set p12.2.1 (Int.toNat p12.1.2.2.1) p12.1.1)), ())) none) none)))))))
def O41 : Orc := ⟨(.cons .s (.cons (.ks ([47]:List UInt8)) (.cons (.ki .i64 (0)) (.cons (.ki .i64 (-1)) .nil)))), [], (.sl .str), [], F41⟩
def H41 : HT := (.two .leaf (.two .leaf (.two .leaf (.two (.join [(.normal, ⟨[(0, .s), (1, (.ks ([47]:List UInt8))), (2, (.ki .i64 (0))), (3, (.i .i64))], [], 0⟩)] .leaf) (.two (.join [(.normal, ⟨[(0, .s), (1, (.ks ([47]:List UInt8))), (2, (.ki .i64 (0))), (3, (.i .i64))], [], 0⟩)] .leaf) (.two (.join [(.normal, ⟨[(0, .s), (1, (.ks ([47]:List UInt8))), (2, (.ki .i64 (0))), (3, (.i .i64)), (9, (.own 0))], [(0, (.data .str))], 1⟩)] .leaf) (.two (.join [(.normal, ⟨[(0, .s), (1, (.ks ([47]:List UInt8))), (2, (.ki .i64 (0))), (3, (.i .i64)), (9, (.own 0))], [(0, (.data .str))], 1⟩)] .leaf) (.two (.join [(.normal, ⟨[(0, .s), (1, (.ks ([47]:List UInt8))), (2, (.ki .i64 (0))), (3, (.i .i64)), (9, (.own 0)), (10, (.ki .i64 (0)))], [(0, (.data .str))], 1⟩)] .leaf) (.two (.join [(.normal, ⟨[(0, .s), (9, (.own 0)), (10, (.i .i64))], [(0, (.data .str))], 1⟩)] (.one (.loop S41_0 U41_0 L41_0 H41_0))) .leaf)))))))))
def X41 : List (FuncId × Orc) := [(51, O51), (52, O52)]
def Y41 : List (FuncId × (List AV → Option AV)) := []
def Z41 : List (FuncId × Deed) := []
def I41 : List FuncId := []
theorem round41_0 (p) : round Go.Proofs.Tryd.prog (callX Go.Proofs.Tryd.prog (lookX X41) (lookM X41) (lookY Y41) (lookZ Z41) (hasN I41) 6) (mild (lookM X41) (lookY Y41)) 0 66 (subc (bodyOf Go.Proofs.Tryd.f41) [true, true, true, true, true, true, true, true, false, false, false]) H41_0 S41_0 U41_0 p = B41_0 p := by kernel_rfl
theorem run41 (p) : evTop Go.Proofs.Tryd.prog (callX Go.Proofs.Tryd.prog (lookX X41) (lookM X41) (lookY Y41) (lookZ Z41) (hasN I41) 6) (mild (lookM X41) (lookY Y41)) Go.Proofs.Tryd.f41 H41 O41 p = F41 p := by kernel_rfl
theorem ok41 : O41.OK Go.Proofs.Tryd.prog 41 :=
  ok_of mixed (X := X41) (Y := Y41) (Z := Z41) (I := I41) (d := 6) ⟨ok51, ⟨ok52, trivial⟩⟩ trivial trivial trivial (by kernel_rfl) Go.Proofs.Tryd.func41 Go.Proofs.Tryd.call41 (c := bodyOf Go.Proofs.Tryd.f41) (by kernel_rfl) (h := H41) (by kernel_rfl)
    (ls := [⟨subc (bodyOf Go.Proofs.Tryd.f41) [true, true, true, true, true, true, true, true, false, false, false], H41_0, S41_0, U41_0, L41_0⟩]) (by kernel_rfl) ⟨LoopRec.of rfl round41_0, trivial⟩ run41

/-! strings.Split -/
def F29 (p : ((List UInt8) × Unit × Unit) × Unit) : Option ((List (List UInt8)) × Unit) := (Option.bind (F41 ((p.1.1, (), (), (), ()), ())) fun r1 => (some (r1.1, ())))
def O29 : Orc := ⟨(.cons .s (.cons (.ks ([47]:List UInt8)) .nil)), [], (.sl .str), [], F29⟩
def H29 : HT := .leaf
def X29 : List (FuncId × Orc) := [(41, O41)]
def Y29 : List (FuncId × (List AV → Option AV)) := []
def Z29 : List (FuncId × Deed) := []
def I29 : List FuncId := []
theorem run29 (p) : evTop Go.Proofs.Tryd.prog (callX Go.Proofs.Tryd.prog (lookX X29) (lookM X29) (lookY Y29) (lookZ Z29) (hasN I29) 6) (mild (lookM X29) (lookY Y29)) Go.Proofs.Tryd.f29 H29 O29 p = F29 p := by kernel_rfl
theorem ok29 : O29.OK Go.Proofs.Tryd.prog 29 :=
  ok_of mixed (X := X29) (Y := Y29) (Z := Z29) (I := I29) (d := 6) ⟨ok41, trivial⟩ trivial trivial trivial (by kernel_rfl) Go.Proofs.Tryd.func29 Go.Proofs.Tryd.call29 (c := bodyOf Go.Proofs.Tryd.f29) (by kernel_rfl) (h := H29) (by kernel_rfl)
    (ls := []) (by kernel_rfl) trivial run29

/-! pigeonhole/glob.Steps -/
def F14 (p : ((List UInt8) × Unit) × Unit) : Option ((List (List UInt8)) × Unit) := (cond (decide (p.1.1 = ([]:List UInt8))) (some (([]:List (List UInt8)), ())) (Option.bind (F29 ((p.1.1, (), ()), ())) fun r1 => (some (r1.1, ()))))
def O14 : Orc := ⟨(.cons .s .nil), [], (.sl .str), [], F14⟩
def H14 : HT := .leaf
def X14 : List (FuncId × Orc) := [(29, O29)]
def Y14 : List (FuncId × (List AV → Option AV)) := []
def Z14 : List (FuncId × Deed) := []
def I14 : List FuncId := []
theorem run14 (p) : evTop Go.Proofs.Tryd.prog (callX Go.Proofs.Tryd.prog (lookX X14) (lookM X14) (lookY Y14) (lookZ Z14) (hasN I14) 6) (mild (lookM X14) (lookY Y14)) Go.Proofs.Tryd.f14 H14 O14 p = F14 p := by kernel_rfl
theorem ok14 : O14.OK Go.Proofs.Tryd.prog 14 :=
  ok_of mixed (X := X14) (Y := Y14) (Z := Z14) (I := I14) (d := 6) ⟨ok29, trivial⟩ trivial trivial trivial (by kernel_rfl) Go.Proofs.Tryd.func14 Go.Proofs.Tryd.call14 (c := bodyOf Go.Proofs.Tryd.f14) (by kernel_rfl) (h := H14) (by kernel_rfl)
    (ls := []) (by kernel_rfl) trivial run14

/-! pigeonhole/pigeonholeref18.Same -/
def S13_0 : Shape := ⟨[(0, (.sl .str)), (1, (.sl .str)), (5, (.i .i64))], [], 0⟩
def U13_0 : Outs := [((.exit 0), ⟨[], [], 0⟩), (.ret, ⟨[(4, (.kb false))], [], 0⟩)]
def B13_0 (p : (((List (List UInt8)) × (List (List UInt8)) × Int × Unit) × Unit)) : Option ((((List (List UInt8)) × (List (List UInt8)) × Int × Unit) × Unit) ⊕ ((Unit × Unit) ⊕ ((Unit × Unit) × Unit))) := (cond (decide (p.1.2.2.1 < (((List.length p.1.1) : Nat) : Int))) (cond ((decide ((0:Int) ≤ p.1.2.2.1)) && (decide (p.1.2.2.1 < (((List.length p.1.1) : Nat) : Int)))) (cond ((decide ((0:Int) ≤ p.1.2.2.1)) && (decide (p.1.2.2.1 < (((List.length p.1.2.1) : Nat) : Int)))) (cond (!(decide ((List.getD p.1.1 (Int.toNat p.1.2.2.1) ([]:List UInt8)) = (List.getD p.1.2.1 (Int.toNat p.1.2.2.1) ([]:List UInt8))))) (some (Sum.inr (Sum.inr (((), ()), ())))) (some (Sum.inl ((p.1.1, p.1.2.1, (w64 (p.1.2.2.1 + (1:Int))), ()), ())))) none) none) (some (Sum.inr (Sum.inl ((), ())))))
def L13_0 (p : (((List (List UInt8)) × (List (List UInt8)) × Int × Unit) × Unit)) : Option ((Unit × Unit) ⊕ ((Unit × Unit) × Unit)) := loopOf B13_0 p
def H13_0 : HT := .leaf
def F13 (p : ((List (List UInt8)) × (List (List UInt8)) × Unit) × Unit) : Option (Bool × Unit) := (cond (!(decide ((((List.length p.1.1) : Nat) : Int) = (((List.length p.1.2.1) : Nat) : Int)))) (some (false, ())) (Option.bind (Option.bind (L13_0 ((p.1.1, p.1.2.1, (0:Int), ()), ())) fun p1 => (match p1 with | Sum.inl p2 => (some (Sum.inl ((), ()))) | Sum.inr q2 => (some (Sum.inr (((), ()), ()))))) fun p3 => (match p3 with | Sum.inl p4 => (some (true, ())) | Sum.inr q4 => (some (false, ())))))
def O13 : Orc := ⟨(.cons (.sl .str) (.cons (.sl .str) .nil)), [], .b, [], F13⟩
def H13 : HT := (.two .leaf (.two .leaf (.two (.join [(.normal, ⟨[], [], 0⟩), (.ret, ⟨[(4, (.kb false))], [], 0⟩)] (.two .leaf (.one (.loop S13_0 U13_0 L13_0 H13_0)))) .leaf)))
def X13 : List (FuncId × Orc) := []
def Y13 : List (FuncId × (List AV → Option AV)) := []
def Z13 : List (FuncId × Deed) := []
def I13 : List FuncId := []
theorem round13_0 (p) : round Go.Proofs.Tryd.prog (callX Go.Proofs.Tryd.prog (lookX X13) (lookM X13) (lookY Y13) (lookZ Z13) (hasN I13) 6) (mild (lookM X13) (lookY Y13)) 0 26 (subc (bodyOf Go.Proofs.Tryd.f13) [true, true, false, true, false, false]) H13_0 S13_0 U13_0 p = B13_0 p := by kernel_rfl
theorem run13 (p) : evTop Go.Proofs.Tryd.prog (callX Go.Proofs.Tryd.prog (lookX X13) (lookM X13) (lookY Y13) (lookZ Z13) (hasN I13) 6) (mild (lookM X13) (lookY Y13)) Go.Proofs.Tryd.f13 H13 O13 p = F13 p := by kernel_rfl
theorem ok13 : O13.OK Go.Proofs.Tryd.prog 13 :=
  ok_of mixed (X := X13) (Y := Y13) (Z := Z13) (I := I13) (d := 6) trivial trivial trivial trivial (by kernel_rfl) Go.Proofs.Tryd.func13 Go.Proofs.Tryd.call13 (c := bodyOf Go.Proofs.Tryd.f13) (by kernel_rfl) (h := H13) (by kernel_rfl)
    (ls := [⟨subc (bodyOf Go.Proofs.Tryd.f13) [true, true, false, true, false, false], H13_0, S13_0, U13_0, L13_0⟩]) (by kernel_rfl) ⟨LoopRec.of rfl round13_0, trivial⟩ run13

/-! pigeonhole/pigeonholelaw18.live -/
def F9 (_p : Unit × Unit) : Option (Bool × Unit) := (Option.bind (F18 ((([97, 47, 98]:List UInt8), ([97]:List UInt8), ([99]:List UInt8), ()), ())) fun r1 => (Option.bind (F10 ((([97, 37]:List UInt8), ([97, 47, 98]:List UInt8), ()), ())) fun r2 => (cond (!r2.1) (Option.bind (F10 ((([97, 42]:List UInt8), ([97, 47, 98]:List UInt8), ()), ())) fun r3 => (cond r3.1 (Option.bind (F10 ((([73, 110, 66, 111, 120, 47, 120]:List UInt8), ([105, 110, 98, 111, 120, 47, 120]:List UInt8), ()), ())) fun r4 => (cond ((r4.1 && (decide (r1.1.1 = ([99, 47, 98]:List UInt8)))) && r1.1.2.1) (Option.bind (F14 ((([97, 47, 98]:List UInt8), ()), ())) fun r5 => (Option.bind (F13 ((r5.1, ([([97]:List UInt8), ([98]:List UInt8)]:List (List UInt8)), ()), ())) fun r6 => (cond r6.1 (Option.bind (F16 ((([97, 47, 98]:List UInt8), ([97]:List UInt8), ()), ())) fun r7 => (some (r7.1, ()))) (some (false, ()))))) (some (false, ())))) (some (false, ())))) (some (false, ())))))
def O9 : Orc := ⟨.nil, [], .b, [], F9⟩
def H9 : HT := .leaf
def X9 : List (FuncId × Orc) := [(10, O10), (13, O13), (14, O14), (16, O16), (18, O18)]
def Y9 : List (FuncId × (List AV → Option AV)) := []
def Z9 : List (FuncId × Deed) := []
def I9 : List FuncId := []
theorem run9 (p) : evTop Go.Proofs.Tryd.prog (callX Go.Proofs.Tryd.prog (lookX X9) (lookM X9) (lookY Y9) (lookZ Z9) (hasN I9) 6) (mild (lookM X9) (lookY Y9)) Go.Proofs.Tryd.f9 H9 O9 p = F9 p := by kernel_rfl
theorem ok9 : O9.OK Go.Proofs.Tryd.prog 9 :=
  ok_of mixed (X := X9) (Y := Y9) (Z := Z9) (I := I9) (d := 6) ⟨ok10, ⟨ok13, ⟨ok14, ⟨ok16, ⟨ok18, trivial⟩⟩⟩⟩⟩ trivial trivial trivial (by kernel_rfl) Go.Proofs.Tryd.func9 Go.Proofs.Tryd.call9 (c := bodyOf Go.Proofs.Tryd.f9) (by kernel_rfl) (h := H9) (by kernel_rfl)
    (ls := []) (by kernel_rfl) trivial run9

/-! pigeonhole/pigeonholeref01.Lower -/
def S12_0 : Shape := ⟨[(0, .s), (3, .s), (4, (.i .i64))], [], 0⟩
def U12_0 : Outs := [((.exit 0), ⟨[(3, .s)], [], 0⟩)]
def B12_0 (p : (((List UInt8) × (List UInt8) × Int × Unit) × Unit)) : Option ((((List UInt8) × (List UInt8) × Int × Unit) × Unit) ⊕ (((List UInt8) × Unit) × Unit)) := (cond (decide (p.1.2.2.1 < (((List.length p.1.1) : Nat) : Int))) (Option.bind (cond ((decide ((0:Int) ≤ p.1.2.2.1)) && (decide (p.1.2.2.1 < (((List.length p.1.1) : Nat) : Int)))) (Option.bind (cond ((decide ((UInt8.toNat (65:UInt8)) ≤ (UInt8.toNat (List.getD p.1.1 (Int.toNat p.1.2.2.1) 0)))) && (decide ((UInt8.toNat (List.getD p.1.1 (Int.toNat p.1.2.2.1) 0)) ≤ (UInt8.toNat (90:UInt8))))) (some ((p.1.1, p.1.2.1, p.1.2.2.1, ((List.getD p.1.1 (Int.toNat p.1.2.2.1) 0) + (32:UInt8)), ()), ())) (some ((p.1.1, p.1.2.1, p.1.2.2.1, (List.getD p.1.1 (Int.toNat p.1.2.2.1) 0), ()), ()))) fun p1 => (cond (fits (List.length p1.1.2.1 + List.length ([p1.1.2.2.2.1]:List UInt8))) (some ((p1.1.1, (p1.1.2.1 ++ ([p1.1.2.2.2.1]:List UInt8)), p1.1.2.2.1, ()), ())) none)) none) fun (p2 : (((List UInt8) × (List UInt8) × Int × Unit) × Unit)) => (some (Sum.inl ((p2.1.1, p2.1.2.1, (w64 (p2.1.2.2.1 + (1:Int))), ()), ())))) (some (Sum.inr ((p.1.2.1, ()), ()))))
def L12_0 (p : (((List UInt8) × (List UInt8) × Int × Unit) × Unit)) : Option (((List UInt8) × Unit) × Unit) := loopOf B12_0 p
def H12_0 : HT := (.two .leaf (.two (.join [(.normal, ⟨[(0, .s), (3, .s), (4, (.i .i64))], [], 0⟩)] (.one (.two .leaf (.two (.join [(.normal, ⟨[(0, .s), (3, .s), (4, (.i .i64)), (5, .u)], [], 0⟩)] .leaf) .leaf)))) .leaf))
def F12 (p : ((List UInt8) × Unit) × Unit) : Option ((List UInt8) × Unit) := (Option.bind (Option.bind (L12_0 ((p.1.1, ([]:List UInt8), (0:Int), ()), ())) fun p3 => (some ((p3.1.1, ()), ()))) fun p4 => (some (p4.1.1, ())))
def O12 : Orc := ⟨(.cons .s .nil), [], .s, [], F12⟩
def H12 : HT := (.two .leaf (.two .leaf (.two (.join [(.normal, ⟨[(3, .s)], [], 0⟩)] (.two .leaf (.one (.loop S12_0 U12_0 L12_0 H12_0)))) .leaf)))
def X12 : List (FuncId × Orc) := []
def Y12 : List (FuncId × (List AV → Option AV)) := []
def Z12 : List (FuncId × Deed) := []
def I12 : List FuncId := []
theorem round12_0 (p) : round Go.Proofs.Tryd.prog (callX Go.Proofs.Tryd.prog (lookX X12) (lookM X12) (lookY Y12) (lookZ Z12) (hasN I12) 6) (mild (lookM X12) (lookY Y12)) 0 29 (subc (bodyOf Go.Proofs.Tryd.f12) [true, true, false, true, false, false]) H12_0 S12_0 U12_0 p = B12_0 p := by kernel_rfl
theorem run12 (p) : evTop Go.Proofs.Tryd.prog (callX Go.Proofs.Tryd.prog (lookX X12) (lookM X12) (lookY Y12) (lookZ Z12) (hasN I12) 6) (mild (lookM X12) (lookY Y12)) Go.Proofs.Tryd.f12 H12 O12 p = F12 p := by kernel_rfl
theorem ok12 : O12.OK Go.Proofs.Tryd.prog 12 :=
  ok_of mixed (X := X12) (Y := Y12) (Z := Z12) (I := I12) (d := 6) trivial trivial trivial trivial (by kernel_rfl) Go.Proofs.Tryd.func12 Go.Proofs.Tryd.call12 (c := bodyOf Go.Proofs.Tryd.f12) (by kernel_rfl) (h := H12) (by kernel_rfl)
    (ls := [⟨subc (bodyOf Go.Proofs.Tryd.f12) [true, true, false, true, false, false], H12_0, S12_0, U12_0, L12_0⟩]) (by kernel_rfl) ⟨LoopRec.of rfl round12_0, trivial⟩ run12

/-! pigeonhole/pigeonholeref18.inbox -/
def F27 (p : ((List UInt8) × Unit) × Unit) : Option (Bool × Unit) := (cond ((decide ((5:Int) ≤ (((List.length p.1.1) : Nat) : Int))) || (!(decide ((5:Int) ≤ (((List.length p.1.1) : Nat) : Int))))) (cond (decide ((5:Int) ≤ (((List.length p.1.1) : Nat) : Int))) (Option.bind (F12 (((List.take 5 p.1.1), ()), ())) fun r1 => (some ((decide (r1.1 = ([105, 110, 98, 111, 120]:List UInt8))), ()))) (some (false, ()))) none)
def O27 : Orc := ⟨(.cons .s .nil), [], .b, [], F27⟩
def H27 : HT := .leaf
def X27 : List (FuncId × Orc) := [(12, O12)]
def Y27 : List (FuncId × (List AV → Option AV)) := []
def Z27 : List (FuncId × Deed) := []
def I27 : List FuncId := []
theorem run27 (p) : evTop Go.Proofs.Tryd.prog (callX Go.Proofs.Tryd.prog (lookX X27) (lookM X27) (lookY Y27) (lookZ Z27) (hasN I27) 6) (mild (lookM X27) (lookY Y27)) Go.Proofs.Tryd.f27 H27 O27 p = F27 p := by kernel_rfl
theorem ok27 : O27.OK Go.Proofs.Tryd.prog 27 :=
  ok_of mixed (X := X27) (Y := Y27) (Z := Z27) (I := I27) (d := 6) ⟨ok12, trivial⟩ trivial trivial trivial (by kernel_rfl) Go.Proofs.Tryd.func27 Go.Proofs.Tryd.call27 (c := bodyOf Go.Proofs.Tryd.f27) (by kernel_rfl) (h := H27) (by kernel_rfl)
    (ls := []) (by kernel_rfl) trivial run27

/-! pigeonhole/pigeonholeref18.match -/
def S28_1 : Shape := ⟨[(0, .s), (1, .s), (5, (.own 0)), (6, (.i .i64)), (7, (.own 1)), (8, (.i .i64))], [(0, (.data .bool)), (1, (.data .bool))], 2⟩
def U28_1 : Outs := [((.exit 2), ⟨[(0, .s), (1, .s), (6, (.i .i64)), (7, (.own 0))], [(0, (.data .bool))], 1⟩)]
def B28_1 (p : (((List UInt8) × (List UInt8) × Unit × Int × Unit × Int × Unit) × ((List Bool) × (List Bool) × Unit))) : Option ((((List UInt8) × (List UInt8) × Unit × Int × Unit × Int × Unit) × ((List Bool) × (List Bool) × Unit)) ⊕ (((List UInt8) × (List UInt8) × Int × Unit × Unit) × ((List Bool) × Unit))) := (cond (decide (p.1.2.2.2.2.2.1 ≤ (((List.length p.1.2.1) : Nat) : Int))) (Option.bind (cond ((decide ((0:Int) ≤ p.1.2.2.2.1)) && (decide (p.1.2.2.2.1 < (((List.length p.1.1) : Nat) : Int)))) (cond ((decide ((List.getD p.1.1 (Int.toNat p.1.2.2.2.1) 0) = (42:UInt8))) || (decide ((List.getD p.1.1 (Int.toNat p.1.2.2.2.1) 0) = (37:UInt8)))) (Option.bind (cond ((decide ((0:Int) ≤ p.1.2.2.2.2.2.1)) && (decide (p.1.2.2.2.2.2.1 < (((List.length p.2.1) : Nat) : Int)))) (cond (((decide ((0:Int) ≤ (w64 (p.1.2.2.2.2.2.1 - (1:Int))))) && (decide ((w64 (p.1.2.2.2.2.2.1 - (1:Int))) < (((List.length p.2.2.1) : Nat) : Int)))) || (!((decide ((0:Int) < p.1.2.2.2.2.2.1)) && (!(List.getD p.2.1 (Int.toNat p.1.2.2.2.2.2.1) false))))) (cond (((decide ((0:Int) ≤ (w64 (p.1.2.2.2.2.2.1 - (1:Int))))) && (decide ((w64 (p.1.2.2.2.2.2.1 - (1:Int))) < (((List.length p.1.2.1) : Nat) : Int)))) || ((decide ((List.getD p.1.1 (Int.toNat p.1.2.2.2.1) 0) = (42:UInt8))) || (!(((decide ((0:Int) < p.1.2.2.2.2.2.1)) && (List.getD p.2.2.1 (Int.toNat (w64 (p.1.2.2.2.2.2.1 - (1:Int)))) false)) && (!(List.getD p.2.1 (Int.toNat p.1.2.2.2.2.2.1) false)))))) (cond ((decide ((0:Int) ≤ p.1.2.2.2.2.2.1)) && (decide (p.1.2.2.2.2.2.1 < (((List.length p.2.2.1) : Nat) : Int)))) (some ((p.1.1, p.1.2.1, (), p.1.2.2.2.1, (), p.1.2.2.2.2.2.1, ()), (p.2.1, (List.set p.2.2.1 (Int.toNat p.1.2.2.2.2.2.1) ((List.getD p.2.1 (Int.toNat p.1.2.2.2.2.2.1) false) || (((decide ((0:Int) < p.1.2.2.2.2.2.1)) && (List.getD p.2.2.1 (Int.toNat (w64 (p.1.2.2.2.2.2.1 - (1:Int)))) false)) && ((decide ((List.getD p.1.1 (Int.toNat p.1.2.2.2.1) 0) = (42:UInt8))) || (!decide ((List.getD p.1.2.1 (Int.toNat (w64 (p.1.2.2.2.2.2.1 - (1:Int)))) 0) = (47:UInt8))))))), ()))) none) none) none) none) fun (p6 : (((List UInt8) × (List UInt8) × Unit × Int × Unit × Int × Unit) × ((List Bool) × (List Bool) × Unit))) => (some ((p6.1.1, p6.1.2.1, (), p6.1.2.2.2.1, (), p6.1.2.2.2.2.2.1, ()), (p6.2.1, p6.2.2.1, ())))) (Option.bind (cond (((decide ((0:Int) ≤ (w64 (p.1.2.2.2.2.2.1 - (1:Int))))) && (decide ((w64 (p.1.2.2.2.2.2.1 - (1:Int))) < (((List.length p.2.1) : Nat) : Int)))) || (!(decide ((0:Int) < p.1.2.2.2.2.2.1)))) (cond (((decide ((0:Int) ≤ (w64 (p.1.2.2.2.2.2.1 - (1:Int))))) && (decide ((w64 (p.1.2.2.2.2.2.1 - (1:Int))) < (((List.length p.1.2.1) : Nat) : Int)))) || (!((decide ((0:Int) < p.1.2.2.2.2.2.1)) && (List.getD p.2.1 (Int.toNat (w64 (p.1.2.2.2.2.2.1 - (1:Int)))) false)))) (cond ((decide ((0:Int) ≤ p.1.2.2.2.2.2.1)) && (decide (p.1.2.2.2.2.2.1 < (((List.length p.2.2.1) : Nat) : Int)))) (some ((p.1.1, p.1.2.1, (), p.1.2.2.2.1, (), p.1.2.2.2.2.2.1, ()), (p.2.1, (List.set p.2.2.1 (Int.toNat p.1.2.2.2.2.2.1) (((decide ((0:Int) < p.1.2.2.2.2.2.1)) && (List.getD p.2.1 (Int.toNat (w64 (p.1.2.2.2.2.2.1 - (1:Int)))) false)) && (decide ((List.getD p.1.2.1 (Int.toNat (w64 (p.1.2.2.2.2.2.1 - (1:Int)))) 0) = (List.getD p.1.1 (Int.toNat p.1.2.2.2.1) 0))))), ()))) none) none) none) fun (p7 : (((List UInt8) × (List UInt8) × Unit × Int × Unit × Int × Unit) × ((List Bool) × (List Bool) × Unit))) => (some ((p7.1.1, p7.1.2.1, (), p7.1.2.2.2.1, (), p7.1.2.2.2.2.2.1, ()), (p7.2.1, p7.2.2.1, ()))))) none) fun (p8 : (((List UInt8) × (List UInt8) × Unit × Int × Unit × Int × Unit) × ((List Bool) × (List Bool) × Unit))) => (some (Sum.inl ((p8.1.1, p8.1.2.1, (), p8.1.2.2.2.1, (), (w64 (p8.1.2.2.2.2.2.1 + (1:Int))), ()), (p8.2.1, p8.2.2.1, ()))))) (some (Sum.inr ((p.1.1, p.1.2.1, p.1.2.2.2.1, (), ()), (p.2.2.1, ())))))
def L28_1 (p : (((List UInt8) × (List UInt8) × Unit × Int × Unit × Int × Unit) × ((List Bool) × (List Bool) × Unit))) : Option (((List UInt8) × (List UInt8) × Int × Unit × Unit) × ((List Bool) × Unit)) := loopOf B28_1 p
def H28_1 : HT := (.two .leaf (.two (.join [(.normal, ⟨[(0, .s), (1, .s), (5, (.own 0)), (6, (.i .i64)), (7, (.own 1)), (8, (.i .i64))], [(0, (.data .bool)), (1, (.data .bool))], 2⟩)] (.one (.two .leaf (.two .leaf (.two (.join [(.normal, ⟨[(0, .s), (1, .s), (5, (.own 0)), (6, (.i .i64)), (7, (.own 1)), (8, (.i .i64))], [(0, (.data .bool)), (1, (.data .bool))], 2⟩)] .leaf) (.join [(.normal, ⟨[(0, .s), (1, .s), (5, (.own 0)), (6, (.i .i64)), (7, (.own 1)), (8, (.i .i64))], [(0, (.data .bool)), (1, (.data .bool))], 2⟩)] .leaf)))))) .leaf))
def S28_0 : Shape := ⟨[(0, .s), (1, .s), (5, (.own 0)), (6, (.i .i64))], [(0, (.data .bool))], 1⟩
def U28_0 : Outs := [((.exit 0), ⟨[(1, .s), (5, (.own 0))], [(0, (.data .bool))], 1⟩)]
def B28_0 (p : (((List UInt8) × (List UInt8) × Unit × Int × Unit) × ((List Bool) × Unit))) : Option ((((List UInt8) × (List UInt8) × Unit × Int × Unit) × ((List Bool) × Unit)) ⊕ (((List UInt8) × Unit × Unit) × ((List Bool) × Unit))) := (cond (decide (p.1.2.2.2.1 < (((List.length p.1.1) : Nat) : Int))) (Option.bind (Option.bind (cond (((decide ((0:Int) ≤ (w64 ((((List.length p.1.2.1) : Nat) : Int) + (1:Int))))) && (decide ((w64 ((((List.length p.1.2.1) : Nat) : Int) + (1:Int))) ≤ (w64 ((((List.length p.1.2.1) : Nat) : Int) + (1:Int)))))) && (bytesOK (Int.toNat (w64 ((((List.length p.1.2.1) : Nat) : Int) + (1:Int)))) 1)) (some ((p.1.1, p.1.2.1, (), p.1.2.2.2.1, (), ()), (p.2.1, (List.replicate (Int.toNat (w64 ((((List.length p.1.2.1) : Nat) : Int) + (1:Int)))) false), ()))) none) fun (p4 : (((List UInt8) × (List UInt8) × Unit × Int × Unit × Unit) × ((List Bool) × (List Bool) × Unit))) => (Option.bind (Option.bind (some ((p4.1.1, p4.1.2.1, (), p4.1.2.2.2.1, (), (), ()), (p4.2.1, p4.2.2.1, ()))) fun p5 => (Option.bind (L28_1 ((p5.1.1, p5.1.2.1, (), p5.1.2.2.2.1, (), (0:Int), ()), (p5.2.1, p5.2.2.1, ()))) fun p9 => (some ((p9.1.1, p9.1.2.1, p9.1.2.2.1, (), ()), (p9.2.1, ()))))) fun p10 => (some ((p10.1.1, p10.1.2.1, (), p10.1.2.2.1, ()), (p10.2.1, ()))))) fun (p11 : (((List UInt8) × (List UInt8) × Unit × Int × Unit) × ((List Bool) × Unit))) => (some (Sum.inl ((p11.1.1, p11.1.2.1, (), (w64 (p11.1.2.2.2.1 + (1:Int))), ()), (p11.2.1, ()))))) (some (Sum.inr ((p.1.2.1, (), ()), (p.2.1, ())))))
def L28_0 (p : (((List UInt8) × (List UInt8) × Unit × Int × Unit) × ((List Bool) × Unit))) : Option (((List UInt8) × Unit × Unit) × ((List Bool) × Unit)) := loopOf B28_0 p
def H28_0 : HT := (.two .leaf (.two (.join [(.normal, ⟨[(0, .s), (1, .s), (5, (.own 0)), (6, (.i .i64))], [(0, (.data .bool))], 1⟩)] (.one (.two (.join [(.normal, ⟨[(0, .s), (1, .s), (5, (.own 0)), (6, (.i .i64)), (7, (.own 1))], [(0, (.data .bool)), (1, (.data .bool))], 2⟩)] .leaf) (.two (.join [(.normal, ⟨[(0, .s), (1, .s), (6, (.i .i64)), (7, (.own 0))], [(0, (.data .bool))], 1⟩)] (.two (.join [(.normal, ⟨[(0, .s), (1, .s), (5, (.own 0)), (6, (.i .i64)), (7, (.own 1)), (8, (.ki .i64 (0)))], [(0, (.data .bool)), (1, (.data .bool))], 2⟩)] .leaf) (.one (.loop S28_1 U28_1 L28_1 H28_1)))) .leaf)))) .leaf))
def F28 (p : ((List UInt8) × (List UInt8) × Unit) × Unit) : Option (Bool × Unit) := (Option.bind (cond (((decide ((0:Int) ≤ (w64 ((((List.length p.1.2.1) : Nat) : Int) + (1:Int))))) && (decide ((w64 ((((List.length p.1.2.1) : Nat) : Int) + (1:Int))) ≤ (w64 ((((List.length p.1.2.1) : Nat) : Int) + (1:Int)))))) && (bytesOK (Int.toNat (w64 ((((List.length p.1.2.1) : Nat) : Int) + (1:Int)))) 1)) (some ((p.1.1, p.1.2.1, (), ()), ((List.replicate (Int.toNat (w64 ((((List.length p.1.2.1) : Nat) : Int) + (1:Int)))) false), ()))) none) fun (p1 : (((List UInt8) × (List UInt8) × Unit × Unit) × ((List Bool) × Unit))) => (Option.bind (cond (decide ((0:Int) < (((List.length p1.2.1) : Nat) : Int))) (some ((p1.1.1, p1.1.2.1, (), ()), ((List.set p1.2.1 0 true), ()))) none) fun (p2 : (((List UInt8) × (List UInt8) × Unit × Unit) × ((List Bool) × Unit))) => (Option.bind (Option.bind (some ((p2.1.1, p2.1.2.1, (), (), ()), (p2.2.1, ()))) fun p3 => (Option.bind (L28_0 ((p3.1.1, p3.1.2.1, (), (0:Int), ()), (p3.2.1, ()))) fun p12 => (some ((p12.1.1, (), ()), (p12.2.1, ()))))) fun p13 => (cond ((decide ((0:Int) ≤ (((List.length p13.1.1) : Nat) : Int))) && (decide ((((List.length p13.1.1) : Nat) : Int) < (((List.length p13.2.1) : Nat) : Int)))) (some ((List.getD p13.2.1 (Int.toNat (((List.length p13.1.1) : Nat) : Int)) false), ())) none))))
def O28 : Orc := ⟨(.cons .s (.cons .s .nil)), [], .b, [], F28⟩
def H28 : HT := (.two .leaf (.two (.join [(.normal, ⟨[(0, .s), (1, .s), (5, (.own 0))], [(0, (.data .bool))], 1⟩)] .leaf) (.two (.join [(.normal, ⟨[(0, .s), (1, .s), (5, (.own 0))], [(0, (.data .bool))], 1⟩)] .leaf) (.two (.join [(.normal, ⟨[(1, .s), (5, (.own 0))], [(0, (.data .bool))], 1⟩)] (.two (.join [(.normal, ⟨[(0, .s), (1, .s), (5, (.own 0)), (6, (.ki .i64 (0)))], [(0, (.data .bool))], 1⟩)] .leaf) (.one (.loop S28_0 U28_0 L28_0 H28_0)))) .leaf))))
def X28 : List (FuncId × Orc) := []
def Y28 : List (FuncId × (List AV → Option AV)) := []
def Z28 : List (FuncId × Deed) := []
def I28 : List FuncId := []
theorem round28_1 (p) : round Go.Proofs.Tryd.prog (callX Go.Proofs.Tryd.prog (lookX X28) (lookM X28) (lookY Y28) (lookZ Z28) (hasN I28) 6) (mild (lookM X28) (lookY Y28)) 0 96 (subc (bodyOf Go.Proofs.Tryd.f28) [true, true, true, false, true, false, false, true, false, false, true, false, true, false, false]) H28_1 S28_1 U28_1 p = B28_1 p := by kernel_rfl
theorem round28_0 (p) : round Go.Proofs.Tryd.prog (callX Go.Proofs.Tryd.prog (lookX X28) (lookM X28) (lookY Y28) (lookZ Z28) (hasN I28) 6) (mild (lookM X28) (lookY Y28)) 0 96 (subc (bodyOf Go.Proofs.Tryd.f28) [true, true, true, false, true, false, false]) H28_0 S28_0 U28_0 p = B28_0 p := by kernel_rfl
theorem run28 (p) : evTop Go.Proofs.Tryd.prog (callX Go.Proofs.Tryd.prog (lookX X28) (lookM X28) (lookY Y28) (lookZ Z28) (hasN I28) 6) (mild (lookM X28) (lookY Y28)) Go.Proofs.Tryd.f28 H28 O28 p = F28 p := by kernel_rfl
theorem ok28 : O28.OK Go.Proofs.Tryd.prog 28 :=
  ok_of mixed (X := X28) (Y := Y28) (Z := Z28) (I := I28) (d := 6) trivial trivial trivial trivial (by kernel_rfl) Go.Proofs.Tryd.func28 Go.Proofs.Tryd.call28 (c := bodyOf Go.Proofs.Tryd.f28) (by kernel_rfl) (h := H28) (by kernel_rfl)
    (ls := [⟨subc (bodyOf Go.Proofs.Tryd.f28) [true, true, true, false, true, false, false], H28_0, S28_0, U28_0, L28_0⟩, ⟨subc (bodyOf Go.Proofs.Tryd.f28) [true, true, true, false, true, false, false, true, false, false, true, false, true, false, false], H28_1, S28_1, U28_1, L28_1⟩]) (by kernel_rfl) ⟨LoopRec.of rfl round28_0, ⟨LoopRec.of rfl round28_1, trivial⟩⟩ run28

/-! pigeonhole/pigeonholeref18.Match -/
def F11 (p : ((List UInt8) × (List UInt8) × Unit) × Unit) : Option (Bool × Unit) := (Option.bind (F27 ((p.1.1, ()), ())) fun r1 => (cond r1.1 (Option.bind (F27 ((p.1.2.1, ()), ())) fun r2 => (cond ((decide ((5:Int) < (((List.length p.1.2.1) : Nat) : Int))) || ((decide ((((List.length p.1.2.1) : Nat) : Int) = (5:Int))) || (!r2.1))) (cond (r2.1 && ((decide ((((List.length p.1.2.1) : Nat) : Int) = (5:Int))) || (decide ((List.getD p.1.2.1 5 0) = (47:UInt8))))) (cond ((decide ((5:Int) ≤ (((List.length p.1.1) : Nat) : Int))) && (decide ((((List.length p.1.1) : Nat) : Int) ≤ (((List.length p.1.1) : Nat) : Int)))) (cond ((decide ((5:Int) ≤ (((List.length p.1.2.1) : Nat) : Int))) && (decide ((((List.length p.1.2.1) : Nat) : Int) ≤ (((List.length p.1.2.1) : Nat) : Int)))) (Option.bind (F28 (((List.take ((Int.toNat (((List.length p.1.1) : Nat) : Int)) - 5) (List.drop 5 p.1.1)), (List.take ((Int.toNat (((List.length p.1.2.1) : Nat) : Int)) - 5) (List.drop 5 p.1.2.1)), ()), ())) fun r3 => (some (r3.1, ()))) none) none) (Option.bind (F28 ((p.1.1, p.1.2.1, ()), ())) fun r4 => (some (r4.1, ())))) none)) (Option.bind (F28 ((p.1.1, p.1.2.1, ()), ())) fun r5 => (some (r5.1, ())))))
def O11 : Orc := ⟨(.cons .s (.cons .s .nil)), [], .b, [], F11⟩
def H11 : HT := .leaf
def X11 : List (FuncId × Orc) := [(27, O27), (28, O28)]
def Y11 : List (FuncId × (List AV → Option AV)) := []
def Z11 : List (FuncId × Deed) := []
def I11 : List FuncId := []
theorem run11 (p) : evTop Go.Proofs.Tryd.prog (callX Go.Proofs.Tryd.prog (lookX X11) (lookM X11) (lookY Y11) (lookZ Z11) (hasN I11) 6) (mild (lookM X11) (lookY Y11)) Go.Proofs.Tryd.f11 H11 O11 p = F11 p := by kernel_rfl
theorem ok11 : O11.OK Go.Proofs.Tryd.prog 11 :=
  ok_of mixed (X := X11) (Y := Y11) (Z := Z11) (I := I11) (d := 6) ⟨ok27, ⟨ok28, trivial⟩⟩ trivial trivial trivial (by kernel_rfl) Go.Proofs.Tryd.func11 Go.Proofs.Tryd.call11 (c := bodyOf Go.Proofs.Tryd.f11) (by kernel_rfl) (h := H11) (by kernel_rfl)
    (ls := []) (by kernel_rfl) trivial run11

/-! pigeonhole/pigeonholelaw18.GlobMatches -/
def F3 (p : ((List UInt8) × (List UInt8) × Unit) × Unit) : Option (Bool × Unit) := (Option.bind (F8 ((p.1.1, ()), ())) fun r1 => (Option.bind (F8 ((p.1.2.1, ()), ())) fun r2 => (Option.bind (F9 ((), ())) fun r3 => (cond r3.1 (Option.bind (F10 ((r1.1, r2.1, ()), ())) fun r4 => (Option.bind (F11 ((r1.1, r2.1, ()), ())) fun r5 => (some ((r4.1 == r5.1), ())))) (some (false, ()))))))
def O3 : Orc := ⟨(.cons .s (.cons .s .nil)), [], .b, [], F3⟩
def H3 : HT := .leaf
def X3 : List (FuncId × Orc) := [(8, O8), (9, O9), (10, O10), (11, O11)]
def Y3 : List (FuncId × (List AV → Option AV)) := []
def Z3 : List (FuncId × Deed) := []
def I3 : List FuncId := []
theorem run3 (p) : evTop Go.Proofs.Tryd.prog (callX Go.Proofs.Tryd.prog (lookX X3) (lookM X3) (lookY Y3) (lookZ Z3) (hasN I3) 6) (mild (lookM X3) (lookY Y3)) Go.Proofs.Tryd.f3 H3 O3 p = F3 p := by kernel_rfl
theorem ok3 : O3.OK Go.Proofs.Tryd.prog 3 :=
  ok_of mixed (X := X3) (Y := Y3) (Z := Z3) (I := I3) (d := 6) ⟨ok8, ⟨ok9, ⟨ok10, ⟨ok11, trivial⟩⟩⟩⟩ trivial trivial trivial (by kernel_rfl) Go.Proofs.Tryd.func3 Go.Proofs.Tryd.call3 (c := bodyOf Go.Proofs.Tryd.f3) (by kernel_rfl) (h := H3) (by kernel_rfl)
    (ls := []) (by kernel_rfl) trivial run3

/-! pigeonhole/pigeonholelaw18.GlobPlain -/
def S4_1 : Shape := ⟨[(0, .s), (1, .s), (7, (.i .i64))], [], 0⟩
def U4_1 : Outs := [((.exit 2), ⟨[(0, .s), (1, .s)], [], 0⟩), (.ret, ⟨[(4, .b)], [], 0⟩)]
def B4_1 (p : (((List UInt8) × (List UInt8) × Int × Unit) × Unit)) : Option ((((List UInt8) × (List UInt8) × Int × Unit) × Unit) ⊕ ((((List UInt8) × (List UInt8) × Unit) × Unit) ⊕ ((Bool × Unit) × Unit))) := (cond (decide (p.1.2.2.1 < (((List.length p.1.1) : Nat) : Int))) (cond ((decide ((0:Int) ≤ p.1.2.2.1)) && (decide (p.1.2.2.1 < (((List.length p.1.1) : Nat) : Int)))) (cond (((decide ((0:Int) ≤ p.1.2.2.1)) && (decide (p.1.2.2.1 < (((List.length p.1.1) : Nat) : Int)))) || (decide ((List.getD p.1.1 (Int.toNat p.1.2.2.1) 0) = (42:UInt8)))) (cond ((decide ((List.getD p.1.1 (Int.toNat p.1.2.2.1) 0) = (42:UInt8))) || (decide ((List.getD p.1.1 (Int.toNat p.1.2.2.1) 0) = (37:UInt8)))) (Option.bind (F9 ((), ())) fun r9 => (some (Sum.inr (Sum.inr ((r9.1, ()), ()))))) (some (Sum.inl ((p.1.1, p.1.2.1, (w64 (p.1.2.2.1 + (1:Int))), ()), ())))) none) none) (some (Sum.inr (Sum.inl ((p.1.1, p.1.2.1, ()), ())))))
def L4_1 (p : (((List UInt8) × (List UInt8) × Int × Unit) × Unit)) : Option ((((List UInt8) × (List UInt8) × Unit) × Unit) ⊕ ((Bool × Unit) × Unit)) := loopOf B4_1 p
def H4_1 : HT := .leaf
def S4_0 : Shape := ⟨[(0, .s), (1, .s), (5, .b), (6, (.i .i64))], [], 0⟩
def U4_0 : Outs := [((.exit 0), ⟨[(0, .s), (1, .s), (5, .b)], [], 0⟩)]
def B4_0 (p : (((List UInt8) × (List UInt8) × Bool × Int × Unit) × Unit)) : Option ((((List UInt8) × (List UInt8) × Bool × Int × Unit) × Unit) ⊕ (((List UInt8) × (List UInt8) × Bool × Unit) × Unit)) := (cond (decide (p.1.2.2.2.1 < (((List.length p.1.2.1) : Nat) : Int))) (Option.bind (cond (((decide ((0:Int) ≤ p.1.2.2.2.1)) && (decide (p.1.2.2.2.1 < (((List.length p.1.2.1) : Nat) : Int)))) || (!p.1.2.2.1)) (some ((p.1.1, p.1.2.1, (p.1.2.2.1 && (!decide ((List.getD p.1.2.1 (Int.toNat p.1.2.2.2.1) 0) = (47:UInt8)))), p.1.2.2.2.1, ()), ())) none) fun (p3 : (((List UInt8) × (List UInt8) × Bool × Int × Unit) × Unit)) => (Option.bind (some ((p3.1.1, p3.1.2.1, p3.1.2.2.1, (w64 (p3.1.2.2.2.1 + (1:Int))), ()), ())) fun p4 => (some (Sum.inl ((p4.1.1, p4.1.2.1, p4.1.2.2.1, p4.1.2.2.2.1, ()), ()))))) (some (Sum.inr ((p.1.1, p.1.2.1, p.1.2.2.1, ()), ()))))
def L4_0 (p : (((List UInt8) × (List UInt8) × Bool × Int × Unit) × Unit)) : Option (((List UInt8) × (List UInt8) × Bool × Unit) × Unit) := loopOf B4_0 p
def H4_0 : HT := (.two .leaf (.two (.one (.join [(.normal, ⟨[(0, .s), (1, .s), (5, .b), (6, (.i .i64))], [], 0⟩)] .leaf)) (.join [(.normal, ⟨[(0, .s), (1, .s), (5, .b), (6, (.i .i64))], [], 0⟩)] .leaf)))
def F4 (p : ((List UInt8) × (List UInt8) × Unit) × Unit) : Option (Bool × Unit) := (Option.bind (F8 ((p.1.1, ()), ())) fun r1 => (Option.bind (F8 ((p.1.2.1, ()), ())) fun r2 => (Option.bind (Option.bind (L4_0 ((r1.1, r2.1, true, (0:Int), ()), ())) fun p5 => (some ((p5.1.1, p5.1.2.1, p5.1.2.2.1, ()), ()))) fun p6 => (Option.bind (F10 ((([42]:List UInt8), p6.1.2.1, ()), ())) fun r7 => (cond (!(!r7.1)) (Option.bind (F10 ((([37]:List UInt8), p6.1.2.1, ()), ())) fun r8 => (cond (!(r8.1 == p6.1.2.2.1)) (some (false, ())) (Option.bind (Option.bind (L4_1 ((p6.1.1, p6.1.2.1, (0:Int), ()), ())) fun p10 => (match p10 with | Sum.inl p11 => (some (Sum.inl ((p11.1.1, p11.1.2.1, ()), ()))) | Sum.inr q11 => (some (Sum.inr ((q11.1.1, ()), ()))))) fun p12 => (match p12 with | Sum.inl p13 => (Option.bind (F10 ((p13.1.1, p13.1.1, ()), ())) fun r14 => (cond (!(!r14.1)) (Option.bind (F10 ((p13.1.1, p13.1.2.1, ()), ())) fun r15 => (cond r15.1 (Option.bind (F12 ((p13.1.1, ()), ())) fun r16 => (Option.bind (F12 ((p13.1.2.1, ()), ())) fun r17 => (cond (!(decide (r16.1 = r17.1))) (some (false, ())) (cond ((decide ((5:Int) ≤ (((List.length p13.1.1) : Nat) : Int))) || (!(decide ((5:Int) ≤ (((List.length p13.1.1) : Nat) : Int))))) (cond (decide ((5:Int) ≤ (((List.length p13.1.1) : Nat) : Int))) (Option.bind (F12 (((List.take 5 p13.1.1), ()), ())) fun r18 => (Option.bind (F9 ((), ())) fun r19 => (cond r19.1 (cond (!(decide (r18.1 = ([105, 110, 98, 111, 120]:List UInt8)))) (Option.bind (F10 ((p13.1.1, p13.1.2.1, ()), ())) fun r20 => (some ((r20.1 == (decide (p13.1.1 = p13.1.2.1))), ()))) (some (true, ()))) (some (false, ()))))) (Option.bind (F9 ((), ())) fun r21 => (cond r21.1 (Option.bind (F10 ((p13.1.1, p13.1.2.1, ()), ())) fun r22 => (some ((r22.1 == (decide (p13.1.1 = p13.1.2.1))), ()))) (some (false, ()))))) none)))) (cond ((decide ((5:Int) ≤ (((List.length p13.1.1) : Nat) : Int))) || (!(decide ((5:Int) ≤ (((List.length p13.1.1) : Nat) : Int))))) (cond (decide ((5:Int) ≤ (((List.length p13.1.1) : Nat) : Int))) (Option.bind (F12 (((List.take 5 p13.1.1), ()), ())) fun r23 => (Option.bind (F9 ((), ())) fun r24 => (cond r24.1 (cond (!(decide (r23.1 = ([105, 110, 98, 111, 120]:List UInt8)))) (Option.bind (F10 ((p13.1.1, p13.1.2.1, ()), ())) fun r25 => (some ((r25.1 == (decide (p13.1.1 = p13.1.2.1))), ()))) (some (true, ()))) (some (false, ()))))) (Option.bind (F9 ((), ())) fun r26 => (cond r26.1 (Option.bind (F10 ((p13.1.1, p13.1.2.1, ()), ())) fun r27 => (some ((r27.1 == (decide (p13.1.1 = p13.1.2.1))), ()))) (some (false, ()))))) none))) (some (false, ())))) | Sum.inr q13 => (some (q13.1.1, ())))))) (some (false, ())))))))
def O4 : Orc := ⟨(.cons .s (.cons .s .nil)), [], .b, [], F4⟩
def H4 : HT := (.two .leaf (.two .leaf (.two .leaf (.two (.join [(.normal, ⟨[(0, .s), (1, .s), (5, .b)], [], 0⟩)] (.two .leaf (.one (.loop S4_0 U4_0 L4_0 H4_0)))) (.two .leaf (.two (.join [(.normal, ⟨[(0, .s), (1, .s)], [], 0⟩), (.ret, ⟨[(4, .b)], [], 0⟩)] (.two .leaf (.one (.loop S4_1 U4_1 L4_1 H4_1)))) .leaf))))))
def X4 : List (FuncId × Orc) := [(8, O8), (9, O9), (10, O10), (12, O12)]
def Y4 : List (FuncId × (List AV → Option AV)) := []
def Z4 : List (FuncId × Deed) := []
def I4 : List FuncId := []
theorem round4_1 (p) : round Go.Proofs.Tryd.prog (callX Go.Proofs.Tryd.prog (lookX X4) (lookM X4) (lookY Y4) (lookZ Z4) (hasN I4) 6) (mild (lookM X4) (lookY Y4)) 0 90 (subc (bodyOf Go.Proofs.Tryd.f4) [true, true, true, true, true, false, true, false, false]) H4_1 S4_1 U4_1 p = B4_1 p := by kernel_rfl
theorem round4_0 (p) : round Go.Proofs.Tryd.prog (callX Go.Proofs.Tryd.prog (lookX X4) (lookM X4) (lookY Y4) (lookZ Z4) (hasN I4) 6) (mild (lookM X4) (lookY Y4)) 0 90 (subc (bodyOf Go.Proofs.Tryd.f4) [true, true, true, false, true, false, false]) H4_0 S4_0 U4_0 p = B4_0 p := by kernel_rfl
theorem run4 (p) : evTop Go.Proofs.Tryd.prog (callX Go.Proofs.Tryd.prog (lookX X4) (lookM X4) (lookY Y4) (lookZ Z4) (hasN I4) 6) (mild (lookM X4) (lookY Y4)) Go.Proofs.Tryd.f4 H4 O4 p = F4 p := by kernel_rfl
theorem ok4 : O4.OK Go.Proofs.Tryd.prog 4 :=
  ok_of mixed (X := X4) (Y := Y4) (Z := Z4) (I := I4) (d := 6) ⟨ok8, ⟨ok9, ⟨ok10, ⟨ok12, trivial⟩⟩⟩⟩ trivial trivial trivial (by kernel_rfl) Go.Proofs.Tryd.func4 Go.Proofs.Tryd.call4 (c := bodyOf Go.Proofs.Tryd.f4) (by kernel_rfl) (h := H4) (by kernel_rfl)
    (ls := [⟨subc (bodyOf Go.Proofs.Tryd.f4) [true, true, true, false, true, false, false], H4_0, S4_0, U4_0, L4_0⟩, ⟨subc (bodyOf Go.Proofs.Tryd.f4) [true, true, true, true, true, false, true, false, false], H4_1, S4_1, U4_1, L4_1⟩]) (by kernel_rfl) ⟨LoopRec.of rfl round4_0, ⟨LoopRec.of rfl round4_1, trivial⟩⟩ run4

/-! pigeonhole/pigeonholeref18.Steps -/
def S15_0 : Shape := ⟨[(0, .s), (3, (.own 0)), (4, (.i .i64)), (5, (.i .i64))], [(0, (.data .str))], 1⟩
def U15_0 : Outs := [((.exit 0), ⟨[(3, (.own 0))], [(0, (.data .str))], 1⟩)]
def B15_0 (p : (((List UInt8) × Unit × Int × Int × Unit) × ((List (List UInt8)) × Unit))) : Option ((((List UInt8) × Unit × Int × Int × Unit) × ((List (List UInt8)) × Unit)) ⊕ ((Unit × Unit) × ((List (List UInt8)) × Unit))) := (cond (decide (p.1.2.2.2.1 ≤ (((List.length p.1.1) : Nat) : Int))) (Option.bind (cond (((decide ((0:Int) ≤ p.1.2.2.2.1)) && (decide (p.1.2.2.2.1 < (((List.length p.1.1) : Nat) : Int)))) || (decide (p.1.2.2.2.1 = (((List.length p.1.1) : Nat) : Int)))) (cond ((decide (p.1.2.2.2.1 = (((List.length p.1.1) : Nat) : Int))) || (decide ((List.getD p.1.1 (Int.toNat p.1.2.2.2.1) 0) = (47:UInt8)))) (Option.bind (cond (((decide ((0:Int) ≤ p.1.2.2.1)) && (decide (p.1.2.2.1 ≤ p.1.2.2.2.1))) && (decide (p.1.2.2.2.1 ≤ (((List.length p.1.1) : Nat) : Int)))) (cond (bytesOK ((List.length p.2.1) + (List.length ([(List.take ((Int.toNat p.1.2.2.2.1) - (Int.toNat p.1.2.2.1)) (List.drop (Int.toNat p.1.2.2.1) p.1.1))]:List (List UInt8)))) 16) (some ((p.1.1, (), p.1.2.2.2.1, ()), ((p.2.1 ++ ([(List.take ((Int.toNat p.1.2.2.2.1) - (Int.toNat p.1.2.2.1)) (List.drop (Int.toNat p.1.2.2.1) p.1.1))]:List (List UInt8))), ()))) none) none) fun (p1 : (((List UInt8) × Unit × Int × Unit) × ((List (List UInt8)) × Unit))) => (Option.bind (some ((p1.1.1, (), (w64 (p1.1.2.2.1 + (1:Int))), p1.1.2.2.1, ()), (p1.2.1, ()))) fun p2 => (some ((p2.1.1, (), p2.1.2.2.1, p2.1.2.2.2.1, ()), (p2.2.1, ()))))) (some ((p.1.1, (), p.1.2.2.1, p.1.2.2.2.1, ()), (p.2.1, ())))) none) fun (p3 : (((List UInt8) × Unit × Int × Int × Unit) × ((List (List UInt8)) × Unit))) => (some (Sum.inl ((p3.1.1, (), p3.1.2.2.1, (w64 (p3.1.2.2.2.1 + (1:Int))), ()), (p3.2.1, ()))))) (some (Sum.inr (((), ()), (p.2.1, ())))))
def L15_0 (p : (((List UInt8) × Unit × Int × Int × Unit) × ((List (List UInt8)) × Unit))) : Option ((Unit × Unit) × ((List (List UInt8)) × Unit)) := loopOf B15_0 p
def H15_0 : HT := (.two .leaf (.two (.join [(.normal, ⟨[(0, .s), (3, (.own 0)), (4, (.i .i64)), (5, (.i .i64))], [(0, (.data .str))], 1⟩)] (.one (.two .leaf (.two (.two (.join [(.normal, ⟨[(0, .s), (3, (.own 0)), (5, (.i .i64))], [(0, (.data .str))], 1⟩)] .leaf) (.join [(.normal, ⟨[(0, .s), (3, (.own 0)), (4, (.i .i64)), (5, (.i .i64))], [(0, (.data .str))], 1⟩)] .leaf)) .leaf)))) .leaf))
def F15 (p : ((List UInt8) × Unit) × Unit) : Option (Unit × ((List (List UInt8)) × Unit)) := (cond (decide ((((List.length p.1.1) : Nat) : Int) = (0:Int))) (some ((), (([]:List (List UInt8)), ()))) (Option.bind (Option.bind (L15_0 ((p.1.1, (), (0:Int), (0:Int), ()), (([]:List (List UInt8)), ()))) fun p4 => (some (((), ()), (p4.2.1, ())))) fun p5 => (some ((), (p5.2.1, ())))))
def O15 : Orc := ⟨(.cons .s .nil), [], (.own 0), [(0, (.data .str))], F15⟩
def H15 : HT := (.two .leaf (.two .leaf (.two .leaf (.two .leaf (.two (.join [(.normal, ⟨[(3, (.own 0))], [(0, (.data .str))], 1⟩)] (.two .leaf (.one (.loop S15_0 U15_0 L15_0 H15_0)))) .leaf)))))
def X15 : List (FuncId × Orc) := []
def Y15 : List (FuncId × (List AV → Option AV)) := []
def Z15 : List (FuncId × Deed) := []
def I15 : List FuncId := []
theorem round15_0 (p) : round Go.Proofs.Tryd.prog (callX Go.Proofs.Tryd.prog (lookX X15) (lookM X15) (lookY Y15) (lookZ Z15) (hasN I15) 6) (mild (lookM X15) (lookY Y15)) 0 37 (subc (bodyOf Go.Proofs.Tryd.f15) [true, true, true, true, false, true, false, false]) H15_0 S15_0 U15_0 p = B15_0 p := by kernel_rfl
theorem run15 (p) : evTop Go.Proofs.Tryd.prog (callX Go.Proofs.Tryd.prog (lookX X15) (lookM X15) (lookY Y15) (lookZ Z15) (hasN I15) 6) (mild (lookM X15) (lookY Y15)) Go.Proofs.Tryd.f15 H15 O15 p = F15 p := by kernel_rfl
theorem ok15 : O15.OK Go.Proofs.Tryd.prog 15 :=
  ok_of mixed (X := X15) (Y := Y15) (Z := Z15) (I := I15) (d := 6) trivial trivial trivial trivial (by kernel_rfl) Go.Proofs.Tryd.func15 Go.Proofs.Tryd.call15 (c := bodyOf Go.Proofs.Tryd.f15) (by kernel_rfl) (h := H15) (by kernel_rfl)
    (ls := [⟨subc (bodyOf Go.Proofs.Tryd.f15) [true, true, true, true, false, true, false, false], H15_0, S15_0, U15_0, L15_0⟩]) (by kernel_rfl) ⟨LoopRec.of rfl round15_0, trivial⟩ run15

/-! pigeonhole/pigeonholeref18.Under -/
def F17 (p : ((List UInt8) × (List UInt8) × Unit) × Unit) : Option (Bool × Unit) := (cond (((decide ((0:Int) ≤ (((List.length p.1.2.1) : Nat) : Int))) && (decide ((((List.length p.1.2.1) : Nat) : Int) ≤ (((List.length p.1.1) : Nat) : Int)))) || (!((decide ((0:Int) < (((List.length p.1.2.1) : Nat) : Int))) && (decide ((((List.length p.1.2.1) : Nat) : Int) < (((List.length p.1.1) : Nat) : Int)))))) (cond (((decide ((0:Int) ≤ (((List.length p.1.2.1) : Nat) : Int))) && (decide ((((List.length p.1.2.1) : Nat) : Int) < (((List.length p.1.1) : Nat) : Int)))) || (!(((decide ((0:Int) < (((List.length p.1.2.1) : Nat) : Int))) && (decide ((((List.length p.1.2.1) : Nat) : Int) < (((List.length p.1.1) : Nat) : Int)))) && (decide ((List.take (Int.toNat (((List.length p.1.2.1) : Nat) : Int)) p.1.1) = p.1.2.1))))) (some (((((decide ((0:Int) < (((List.length p.1.2.1) : Nat) : Int))) && (decide ((((List.length p.1.2.1) : Nat) : Int) < (((List.length p.1.1) : Nat) : Int)))) && (decide ((List.take (Int.toNat (((List.length p.1.2.1) : Nat) : Int)) p.1.1) = p.1.2.1))) && (decide ((List.getD p.1.1 (Int.toNat (((List.length p.1.2.1) : Nat) : Int)) 0) = (47:UInt8)))), ())) none) none)
def O17 : Orc := ⟨(.cons .s (.cons .s .nil)), [], .b, [], F17⟩
def H17 : HT := .leaf
def X17 : List (FuncId × Orc) := []
def Y17 : List (FuncId × (List AV → Option AV)) := []
def Z17 : List (FuncId × Deed) := []
def I17 : List FuncId := []
theorem run17 (p) : evTop Go.Proofs.Tryd.prog (callX Go.Proofs.Tryd.prog (lookX X17) (lookM X17) (lookY Y17) (lookZ Z17) (hasN I17) 6) (mild (lookM X17) (lookY Y17)) Go.Proofs.Tryd.f17 H17 O17 p = F17 p := by kernel_rfl
theorem ok17 : O17.OK Go.Proofs.Tryd.prog 17 :=
  ok_of mixed (X := X17) (Y := Y17) (Z := Z17) (I := I17) (d := 6) trivial trivial trivial trivial (by kernel_rfl) Go.Proofs.Tryd.func17 Go.Proofs.Tryd.call17 (c := bodyOf Go.Proofs.Tryd.f17) (by kernel_rfl) (h := H17) (by kernel_rfl)
    (ls := []) (by kernel_rfl) trivial run17

/-! pigeonhole/pigeonholelaw18.GlobSteps -/
def F5 (p : ((List UInt8) × (List UInt8) × Unit) × Unit) : Option (Bool × Unit) := (Option.bind (F8 ((p.1.1, ()), ())) fun r1 => (Option.bind (F8 ((p.1.2.1, ()), ())) fun r2 => (Option.bind (F9 ((), ())) fun r3 => (cond r3.1 (Option.bind (F14 ((r1.1, ()), ())) fun r4 => (Option.bind (F15 ((r1.1, ()), ())) fun r5 => (Option.bind (F13 ((r4.1, r5.2.1, ()), ())) fun r6 => (cond r6.1 (Option.bind (F16 ((r1.1, r2.1, ()), ())) fun r7 => (Option.bind (F17 ((r1.1, r2.1, ()), ())) fun r8 => (some ((r7.1 == r8.1), ())))) (some (false, ())))))) (some (false, ()))))))
def O5 : Orc := ⟨(.cons .s (.cons .s .nil)), [], .b, [], F5⟩
def H5 : HT := .leaf
def X5 : List (FuncId × Orc) := [(8, O8), (9, O9), (13, O13), (14, O14), (15, O15), (16, O16), (17, O17)]
def Y5 : List (FuncId × (List AV → Option AV)) := []
def Z5 : List (FuncId × Deed) := []
def I5 : List FuncId := []
theorem run5 (p) : evTop Go.Proofs.Tryd.prog (callX Go.Proofs.Tryd.prog (lookX X5) (lookM X5) (lookY Y5) (lookZ Z5) (hasN I5) 6) (mild (lookM X5) (lookY Y5)) Go.Proofs.Tryd.f5 H5 O5 p = F5 p := by kernel_rfl
theorem ok5 : O5.OK Go.Proofs.Tryd.prog 5 :=
  ok_of mixed (X := X5) (Y := Y5) (Z := Z5) (I := I5) (d := 6) ⟨ok8, ⟨ok9, ⟨ok13, ⟨ok14, ⟨ok15, ⟨ok16, ⟨ok17, trivial⟩⟩⟩⟩⟩⟩⟩ trivial trivial trivial (by kernel_rfl) Go.Proofs.Tryd.func5 Go.Proofs.Tryd.call5 (c := bodyOf Go.Proofs.Tryd.f5) (by kernel_rfl) (h := H5) (by kernel_rfl)
    (ls := []) (by kernel_rfl) trivial run5

/-! pigeonhole/pigeonholeref18.Moved -/
def F19 (p : ((List UInt8) × (List UInt8) × (List UInt8) × Unit) × Unit) : Option (((List UInt8) × Bool × Unit) × Unit) := (cond (!(decide (p.1.1 = p.1.2.1))) (Option.bind (F17 ((p.1.1, p.1.2.1, ()), ())) fun r1 => (cond r1.1 (cond (((decide ((0:Int) ≤ (((List.length p.1.2.1) : Nat) : Int))) && (decide ((((List.length p.1.2.1) : Nat) : Int) ≤ (((List.length p.1.1) : Nat) : Int)))) && (decide ((((List.length p.1.1) : Nat) : Int) ≤ (((List.length p.1.1) : Nat) : Int)))) (cond (fits (List.length p.1.2.2.1 + List.length (List.take ((Int.toNat (((List.length p.1.1) : Nat) : Int)) - (Int.toNat (((List.length p.1.2.1) : Nat) : Int))) (List.drop (Int.toNat (((List.length p.1.2.1) : Nat) : Int)) p.1.1)))) (some (((p.1.2.2.1 ++ (List.take ((Int.toNat (((List.length p.1.1) : Nat) : Int)) - (Int.toNat (((List.length p.1.2.1) : Nat) : Int))) (List.drop (Int.toNat (((List.length p.1.2.1) : Nat) : Int)) p.1.1))), true, ()), ())) none) none) (some ((([]:List UInt8), false, ()), ())))) (cond (((decide ((0:Int) ≤ (((List.length p.1.2.1) : Nat) : Int))) && (decide ((((List.length p.1.2.1) : Nat) : Int) ≤ (((List.length p.1.1) : Nat) : Int)))) && (decide ((((List.length p.1.1) : Nat) : Int) ≤ (((List.length p.1.1) : Nat) : Int)))) (cond (fits (List.length p.1.2.2.1 + List.length (List.take ((Int.toNat (((List.length p.1.1) : Nat) : Int)) - (Int.toNat (((List.length p.1.2.1) : Nat) : Int))) (List.drop (Int.toNat (((List.length p.1.2.1) : Nat) : Int)) p.1.1)))) (some (((p.1.2.2.1 ++ (List.take ((Int.toNat (((List.length p.1.1) : Nat) : Int)) - (Int.toNat (((List.length p.1.2.1) : Nat) : Int))) (List.drop (Int.toNat (((List.length p.1.2.1) : Nat) : Int)) p.1.1))), true, ()), ())) none) none))
def O19 : Orc := ⟨(.cons .s (.cons .s (.cons .s .nil))), [], (.tup (.cons .s (.cons .b .nil))), [], F19⟩
def H19 : HT := .leaf
def X19 : List (FuncId × Orc) := [(17, O17)]
def Y19 : List (FuncId × (List AV → Option AV)) := []
def Z19 : List (FuncId × Deed) := []
def I19 : List FuncId := []
theorem run19 (p) : evTop Go.Proofs.Tryd.prog (callX Go.Proofs.Tryd.prog (lookX X19) (lookM X19) (lookY Y19) (lookZ Z19) (hasN I19) 6) (mild (lookM X19) (lookY Y19)) Go.Proofs.Tryd.f19 H19 O19 p = F19 p := by kernel_rfl
theorem ok19 : O19.OK Go.Proofs.Tryd.prog 19 :=
  ok_of mixed (X := X19) (Y := Y19) (Z := Z19) (I := I19) (d := 6) ⟨ok17, trivial⟩ trivial trivial trivial (by kernel_rfl) Go.Proofs.Tryd.func19 Go.Proofs.Tryd.call19 (c := bodyOf Go.Proofs.Tryd.f19) (by kernel_rfl) (h := H19) (by kernel_rfl)
    (ls := []) (by kernel_rfl) trivial run19

/-! pigeonhole/pigeonholelaw18.GlobMoves -/
def F6 (p : ((List UInt8) × (List UInt8) × (List UInt8) × Unit) × Unit) : Option (Bool × Unit) := (Option.bind (F8 ((p.1.1, ()), ())) fun r1 => (Option.bind (F8 ((p.1.2.1, ()), ())) fun r2 => (Option.bind (F8 ((p.1.2.2.1, ()), ())) fun r3 => (Option.bind (F18 ((r1.1, r2.1, r3.1, ()), ())) fun r4 => (Option.bind (F19 ((r1.1, r2.1, r3.1, ()), ())) fun r5 => (cond ((!(decide (r4.1.1 = r5.1.1))) || (!(r4.1.2.1 == r5.1.2.1))) (some (false, ())) (cond (!r4.1.2.1) (Option.bind (F9 ((), ())) fun r6 => (some ((r6.1 && (decide (r4.1.1 = ([]:List UInt8)))), ()))) (Option.bind (F18 ((r4.1.1, r3.1, r2.1, ()), ())) fun r7 => (cond ((!(decide (r1.1 = r2.1))) && (decide (r3.1 = ([]:List UInt8)))) (Option.bind (F9 ((), ())) fun r8 => (some (r8.1, ()))) (Option.bind (F9 ((), ())) fun r9 => (cond ((r9.1 && r7.1.2.1) && (decide (r7.1.1 = r1.1))) (cond (!(decide (r1.1 = r2.1))) (Option.bind (F16 ((r4.1.1, r3.1, ()), ())) fun r10 => (some (r10.1, ()))) (some (true, ()))) (some (false, ())))))))))))))
def O6 : Orc := ⟨(.cons .s (.cons .s (.cons .s .nil))), [], .b, [], F6⟩
def H6 : HT := .leaf
def X6 : List (FuncId × Orc) := [(8, O8), (9, O9), (16, O16), (18, O18), (19, O19)]
def Y6 : List (FuncId × (List AV → Option AV)) := []
def Z6 : List (FuncId × Deed) := []
def I6 : List FuncId := []
theorem run6 (p) : evTop Go.Proofs.Tryd.prog (callX Go.Proofs.Tryd.prog (lookX X6) (lookM X6) (lookY Y6) (lookZ Z6) (hasN I6) 6) (mild (lookM X6) (lookY Y6)) Go.Proofs.Tryd.f6 H6 O6 p = F6 p := by kernel_rfl
theorem ok6 : O6.OK Go.Proofs.Tryd.prog 6 :=
  ok_of mixed (X := X6) (Y := Y6) (Z := Z6) (I := I6) (d := 6) ⟨ok8, ⟨ok9, ⟨ok16, ⟨ok18, ⟨ok19, trivial⟩⟩⟩⟩⟩ trivial trivial trivial (by kernel_rfl) Go.Proofs.Tryd.func6 Go.Proofs.Tryd.call6 (c := bodyOf Go.Proofs.Tryd.f6) (by kernel_rfl) (h := H6) (by kernel_rfl)
    (ls := []) (by kernel_rfl) trivial run6

/-! pigeonhole/pigeonholelaw18.few -/
def S20_0 : Shape := ⟨[(0, (.sl .str)), (3, (.own 0)), (4, (.i .i64))], [(0, (.data .str))], 1⟩
def U20_0 : Outs := [((.exit 0), ⟨[(3, (.own 0))], [(0, (.data .str))], 1⟩)]
def B20_0 (p : (((List (List UInt8)) × Unit × Int × Unit) × ((List (List UInt8)) × Unit))) : Option ((((List (List UInt8)) × Unit × Int × Unit) × ((List (List UInt8)) × Unit)) ⊕ ((Unit × Unit) × ((List (List UInt8)) × Unit))) := (cond ((decide (p.1.2.2.1 < (((List.length p.1.1) : Nat) : Int))) && (decide (p.1.2.2.1 < (12:Int)))) (Option.bind (cond ((decide ((0:Int) ≤ p.1.2.2.1)) && (decide (p.1.2.2.1 < (((List.length p.1.1) : Nat) : Int)))) (Option.bind (cond (decide ((60:Int) < (((List.length (List.getD p.1.1 (Int.toNat p.1.2.2.1) ([]:List UInt8))) : Nat) : Int))) (cond (decide ((60:Int) ≤ (((List.length (List.getD p.1.1 (Int.toNat p.1.2.2.1) ([]:List UInt8))) : Nat) : Int))) (some ((p.1.1, (), p.1.2.2.1, (List.take 60 (List.getD p.1.1 (Int.toNat p.1.2.2.1) ([]:List UInt8))), ()), (p.2.1, ()))) none) (some ((p.1.1, (), p.1.2.2.1, (List.getD p.1.1 (Int.toNat p.1.2.2.1) ([]:List UInt8)), ()), (p.2.1, ())))) fun (p1 : (((List (List UInt8)) × Unit × Int × (List UInt8) × Unit) × ((List (List UInt8)) × Unit))) => (cond (bytesOK ((List.length p1.2.1) + (List.length ([p1.1.2.2.2.1]:List (List UInt8)))) 16) (some ((p1.1.1, (), p1.1.2.2.1, ()), ((p1.2.1 ++ ([p1.1.2.2.2.1]:List (List UInt8))), ()))) none)) none) fun (p2 : (((List (List UInt8)) × Unit × Int × Unit) × ((List (List UInt8)) × Unit))) => (some (Sum.inl ((p2.1.1, (), (w64 (p2.1.2.2.1 + (1:Int))), ()), (p2.2.1, ()))))) (some (Sum.inr (((), ()), (p.2.1, ())))))
def L20_0 (p : (((List (List UInt8)) × Unit × Int × Unit) × ((List (List UInt8)) × Unit))) : Option ((Unit × Unit) × ((List (List UInt8)) × Unit)) := loopOf B20_0 p
def H20_0 : HT := (.two .leaf (.two (.join [(.normal, ⟨[(0, (.sl .str)), (3, (.own 0)), (4, (.i .i64))], [(0, (.data .str))], 1⟩)] (.one (.two .leaf (.two (.join [(.normal, ⟨[(0, (.sl .str)), (3, (.own 0)), (4, (.i .i64)), (5, .s)], [(0, (.data .str))], 1⟩)] .leaf) .leaf)))) .leaf))
def F20 (p : ((List (List UInt8)) × Unit) × Unit) : Option ((List (List UInt8)) × Unit) := (Option.bind (Option.bind (L20_0 ((p.1.1, (), (0:Int), ()), (([]:List (List UInt8)), ()))) fun p3 => (some (((), ()), (p3.2.1, ())))) fun p4 => (some (p4.2.1, ())))
def O20 : Orc := ⟨(.cons (.sl .str) .nil), [], (.sl .str), [], F20⟩
def H20 : HT := (.two .leaf (.two .leaf (.two (.join [(.normal, ⟨[(3, (.own 0))], [(0, (.data .str))], 1⟩)] (.two .leaf (.one (.loop S20_0 U20_0 L20_0 H20_0)))) .leaf)))
def X20 : List (FuncId × Orc) := []
def Y20 : List (FuncId × (List AV → Option AV)) := []
def Z20 : List (FuncId × Deed) := []
def I20 : List FuncId := []
theorem round20_0 (p) : round Go.Proofs.Tryd.prog (callX Go.Proofs.Tryd.prog (lookX X20) (lookM X20) (lookY Y20) (lookZ Z20) (hasN I20) 6) (mild (lookM X20) (lookY Y20)) 0 30 (subc (bodyOf Go.Proofs.Tryd.f20) [true, true, false, true, false, false]) H20_0 S20_0 U20_0 p = B20_0 p := by kernel_rfl
theorem run20 (p) : evTop Go.Proofs.Tryd.prog (callX Go.Proofs.Tryd.prog (lookX X20) (lookM X20) (lookY Y20) (lookZ Z20) (hasN I20) 6) (mild (lookM X20) (lookY Y20)) Go.Proofs.Tryd.f20 H20 O20 p = F20 p := by kernel_rfl
theorem ok20 : O20.OK Go.Proofs.Tryd.prog 20 :=
  ok_of mixed (X := X20) (Y := Y20) (Z := Z20) (I := I20) (d := 6) trivial trivial trivial trivial (by kernel_rfl) Go.Proofs.Tryd.func20 Go.Proofs.Tryd.call20 (c := bodyOf Go.Proofs.Tryd.f20) (by kernel_rfl) (h := H20) (by kernel_rfl)
    (ls := [⟨subc (bodyOf Go.Proofs.Tryd.f20) [true, true, false, true, false, false], H20_0, S20_0, U20_0, L20_0⟩]) (by kernel_rfl) ⟨LoopRec.of rfl round20_0, trivial⟩ run20

/-! slices.Index[[]string,string] -/
def S46_0 : Shape := ⟨[(0, (.sl .str)), (1, .s), (7, (.i .i64)), (8, (.i .i64))], [], 0⟩
def U46_0 : Outs := [((.exit 0), ⟨[], [], 0⟩), (.ret, ⟨[(4, (.i .i64))], [], 0⟩)]
def B46_0 (p : (((List (List UInt8)) × (List UInt8) × Int × Int × Unit) × Unit)) : Option ((((List (List UInt8)) × (List UInt8) × Int × Int × Unit) × Unit) ⊕ ((Unit × Unit) ⊕ ((Int × Unit) × Unit))) := (cond (decide (p.1.2.2.2.1 < p.1.2.2.1)) (cond ((decide ((0:Int) ≤ p.1.2.2.2.1)) && (decide (p.1.2.2.2.1 < (((List.length p.1.1) : Nat) : Int)))) (cond (decide (p.1.2.1 = (List.getD p.1.1 (Int.toNat p.1.2.2.2.1) ([]:List UInt8)))) (some (Sum.inr (Sum.inr ((p.1.2.2.2.1, ()), ())))) (some (Sum.inl ((p.1.1, p.1.2.1, p.1.2.2.1, (w64 (p.1.2.2.2.1 + (1:Int))), ()), ())))) none) (some (Sum.inr (Sum.inl ((), ())))))
def L46_0 (p : (((List (List UInt8)) × (List UInt8) × Int × Int × Unit) × Unit)) : Option ((Unit × Unit) ⊕ ((Int × Unit) × Unit)) := loopOf B46_0 p
def H46_0 : HT := .leaf
def F46 (p : ((List (List UInt8)) × (List UInt8) × Unit) × Unit) : Option (Int × Unit) := (Option.bind (Option.bind (L46_0 ((p.1.1, p.1.2.1, (((List.length p.1.1) : Nat) : Int), (0:Int), ()), ())) fun p1 => (match p1 with | Sum.inl p2 => (some (Sum.inl ((), ()))) | Sum.inr q2 => (some (Sum.inr ((q2.1.1, ()), ()))))) fun p3 => (match p3 with | Sum.inl p4 => (some ((-1:Int), ())) | Sum.inr q4 => (some (q4.1.1, ()))))
def O46 : Orc := ⟨(.cons (.sl .str) (.cons .s .nil)), [], (.i .i64), [], F46⟩
def H46 : HT := (.two .leaf (.two (.join [(.normal, ⟨[], [], 0⟩), (.ret, ⟨[(4, (.i .i64))], [], 0⟩)] (.two .leaf (.one (.loop S46_0 U46_0 L46_0 H46_0)))) .leaf))
def X46 : List (FuncId × Orc) := []
def Y46 : List (FuncId × (List AV → Option AV)) := []
def Z46 : List (FuncId × Deed) := []
def I46 : List FuncId := []
theorem round46_0 (p) : round Go.Proofs.Tryd.prog (callX Go.Proofs.Tryd.prog (lookX X46) (lookM X46) (lookY Y46) (lookZ Z46) (hasN I46) 6) (mild (lookM X46) (lookY Y46)) 0 19 (subc (bodyOf Go.Proofs.Tryd.f46) [true, false, true, false, false]) H46_0 S46_0 U46_0 p = B46_0 p := by kernel_rfl
theorem run46 (p) : evTop Go.Proofs.Tryd.prog (callX Go.Proofs.Tryd.prog (lookX X46) (lookM X46) (lookY Y46) (lookZ Z46) (hasN I46) 6) (mild (lookM X46) (lookY Y46)) Go.Proofs.Tryd.f46 H46 O46 p = F46 p := by kernel_rfl
theorem ok46 : O46.OK Go.Proofs.Tryd.prog 46 :=
  ok_of mixed (X := X46) (Y := Y46) (Z := Z46) (I := I46) (d := 6) trivial trivial trivial trivial (by kernel_rfl) Go.Proofs.Tryd.func46 Go.Proofs.Tryd.call46 (c := bodyOf Go.Proofs.Tryd.f46) (by kernel_rfl) (h := H46) (by kernel_rfl)
    (ls := [⟨subc (bodyOf Go.Proofs.Tryd.f46) [true, false, true, false, false], H46_0, S46_0, U46_0, L46_0⟩]) (by kernel_rfl) ⟨LoopRec.of rfl round46_0, trivial⟩ run46

/-! slices.Contains[[]string,string] -/
def F32 (p : ((List (List UInt8)) × (List UInt8) × Unit) × Unit) : Option (Bool × Unit) := (Option.bind (F46 ((p.1.1, p.1.2.1, ()), ())) fun r1 => (some ((decide ((0:Int) ≤ r1.1)), ())))
def O32 : Orc := ⟨(.cons (.sl .str) (.cons .s .nil)), [], .b, [], F32⟩
def H32 : HT := .leaf
def X32 : List (FuncId × Orc) := [(46, O46)]
def Y32 : List (FuncId × (List AV → Option AV)) := []
def Z32 : List (FuncId × Deed) := []
def I32 : List FuncId := []
theorem run32 (p) : evTop Go.Proofs.Tryd.prog (callX Go.Proofs.Tryd.prog (lookX X32) (lookM X32) (lookY Y32) (lookZ Z32) (hasN I32) 6) (mild (lookM X32) (lookY Y32)) Go.Proofs.Tryd.f32 H32 O32 p = F32 p := by kernel_rfl
theorem ok32 : O32.OK Go.Proofs.Tryd.prog 32 :=
  ok_of mixed (X := X32) (Y := Y32) (Z := Z32) (I := I32) (d := 6) ⟨ok46, trivial⟩ trivial trivial trivial (by kernel_rfl) Go.Proofs.Tryd.func32 Go.Proofs.Tryd.call32 (c := bodyOf Go.Proofs.Tryd.f32) (by kernel_rfl) (h := H32) (by kernel_rfl)
    (ls := []) (by kernel_rfl) trivial run32

/-! pigeonhole/glob.Ahead -/
noncomputable def S21_1 : Shape := ⟨[(0, (.sl .str)), (3, (.own 0)), (6, (.sl .str)), (7, (.i .i64)), (9, (.sl .str)), (10, (.i .i64)), (11, (.i .i64))], [(0, (.data .str))], 1⟩
noncomputable def U21_1 : Outs := [((.exit 2), ⟨[(0, (.sl .str)), (3, (.own 0)), (9, (.sl .str)), (10, (.i .i64)), (11, (.i .i64))], [(0, (.data .str))], 1⟩)]
noncomputable def B21_1 (p : (((List (List UInt8)) × Unit × (List (List UInt8)) × Int × (List (List UInt8)) × Int × Int × Unit) × ((List (List UInt8)) × Unit))) : Option ((((List (List UInt8)) × Unit × (List (List UInt8)) × Int × (List (List UInt8)) × Int × Int × Unit) × ((List (List UInt8)) × Unit)) ⊕ (((List (List UInt8)) × Unit × (List (List UInt8)) × Int × Int × Unit) × ((List (List UInt8)) × Unit))) := (cond (decide ((0:Int) < p.1.2.2.2.1)) (Option.bind (Option.bind (cond ((decide ((0:Int) ≤ p.1.2.2.2.1)) && (decide (p.1.2.2.2.1 ≤ (((List.length p.1.2.2.1) : Nat) : Int)))) (cond ((decide ((List.length (List.take (Int.toNat p.1.2.2.2.1) p.1.2.2.1)) ≤ 140737488355328)) && (decide ((List.length (Go.Lib.join (List.take (Int.toNat p.1.2.2.2.1) p.1.2.2.1) ([47]:List UInt8))) ≤ 140737488355328))) (some ((p.1.1, (), p.1.2.2.1, p.1.2.2.2.1, (Go.Lib.join (List.take (Int.toNat p.1.2.2.2.1) p.1.2.2.1) ([47]:List UInt8)), p.1.2.2.2.2.1, p.1.2.2.2.2.2.1, p.1.2.2.2.2.2.2.1, ()), (p.2.1, ()))) none) none) fun (p2 : (((List (List UInt8)) × Unit × (List (List UInt8)) × Int × (List UInt8) × (List (List UInt8)) × Int × Int × Unit) × ((List (List UInt8)) × Unit))) => (Option.bind (some ((p2.1.1, (), p2.1.2.2.1, p2.1.2.2.2.1, p2.1.2.2.2.2.1, p2.1.2.2.2.2.2.1, p2.1.2.2.2.2.2.2.1, p2.1.2.2.2.2.2.2.2.1, (decide (p2.1.2.2.2.2.1 = ([]:List UInt8))), ()), (p2.2.1, ()))) fun p3 => (cond p3.1.2.2.2.2.2.2.2.2.1 (some ((p3.1.1, (), p3.1.2.2.1, p3.1.2.2.2.1, p3.1.2.2.2.2.2.1, p3.1.2.2.2.2.2.2.1, p3.1.2.2.2.2.2.2.2.1, ()), (p3.2.1, ()))) (Option.bind (Option.bind (F32 ((p3.1.1, p3.1.2.2.2.2.1, ()), ())) fun r4 => (some ((p3.1.1, (), p3.1.2.2.1, p3.1.2.2.2.1, p3.1.2.2.2.2.1, p3.1.2.2.2.2.2.1, p3.1.2.2.2.2.2.2.1, p3.1.2.2.2.2.2.2.2.1, (!r4.1), ()), (p3.2.1, ())))) fun p5 => (cond p5.1.2.2.2.2.2.2.2.2.1 (Option.bind (cond (bytesOK ((List.length p5.2.1) + (List.length ([p5.1.2.2.2.2.1]:List (List UInt8)))) 16) (some ((p5.1.1, (), p5.1.2.2.1, p5.1.2.2.2.1, p5.1.2.2.2.2.2.1, p5.1.2.2.2.2.2.2.1, p5.1.2.2.2.2.2.2.2.1, ()), ((p5.2.1 ++ ([p5.1.2.2.2.2.1]:List (List UInt8))), ()))) none) fun (p6 : (((List (List UInt8)) × Unit × (List (List UInt8)) × Int × (List (List UInt8)) × Int × Int × Unit) × ((List (List UInt8)) × Unit))) => (some ((p6.1.1, (), p6.1.2.2.1, p6.1.2.2.2.1, p6.1.2.2.2.2.1, p6.1.2.2.2.2.2.1, p6.1.2.2.2.2.2.2.1, ()), (p6.2.1, ())))) (some ((p5.1.1, (), p5.1.2.2.1, p5.1.2.2.2.1, p5.1.2.2.2.2.2.1, p5.1.2.2.2.2.2.2.1, p5.1.2.2.2.2.2.2.2.1, ()), (p5.2.1, ())))))))) fun (p7 : (((List (List UInt8)) × Unit × (List (List UInt8)) × Int × (List (List UInt8)) × Int × Int × Unit) × ((List (List UInt8)) × Unit))) => (some (Sum.inl ((p7.1.1, (), p7.1.2.2.1, (w64 (p7.1.2.2.2.1 - (1:Int))), p7.1.2.2.2.2.1, p7.1.2.2.2.2.2.1, p7.1.2.2.2.2.2.2.1, ()), (p7.2.1, ()))))) (some (Sum.inr ((p.1.1, (), p.1.2.2.2.2.1, p.1.2.2.2.2.2.1, p.1.2.2.2.2.2.2.1, ()), (p.2.1, ())))))
noncomputable def L21_1 (p : (((List (List UInt8)) × Unit × (List (List UInt8)) × Int × (List (List UInt8)) × Int × Int × Unit) × ((List (List UInt8)) × Unit))) : Option (((List (List UInt8)) × Unit × (List (List UInt8)) × Int × Int × Unit) × ((List (List UInt8)) × Unit)) := loopOf B21_1 p
noncomputable def H21_1 : HT := (.two .leaf (.two (.join [(.normal, ⟨[(0, (.sl .str)), (3, (.own 0)), (6, (.sl .str)), (7, (.i .i64)), (9, (.sl .str)), (10, (.i .i64)), (11, (.i .i64))], [(0, (.data .str))], 1⟩)] (.one (.two (.join [(.normal, ⟨[(0, (.sl .str)), (3, (.own 0)), (6, (.sl .str)), (7, (.i .i64)), (8, .s), (9, (.sl .str)), (10, (.i .i64)), (11, (.i .i64))], [(0, (.data .str))], 1⟩)] .leaf) (.one (.two (.join [(.normal, ⟨[(0, (.sl .str)), (3, (.own 0)), (6, (.sl .str)), (7, (.i .i64)), (8, .s), (9, (.sl .str)), (10, (.i .i64)), (11, (.i .i64)), (28, .b)], [(0, (.data .str))], 1⟩)] .leaf) (.two .leaf (.two (.join [(.normal, ⟨[(0, (.sl .str)), (3, (.own 0)), (6, (.sl .str)), (7, (.i .i64)), (8, .s), (9, (.sl .str)), (10, (.i .i64)), (11, (.i .i64)), (31, .b)], [(0, (.data .str))], 1⟩)] .leaf) (.two (.join [(.normal, ⟨[(0, (.sl .str)), (3, (.own 0)), (6, (.sl .str)), (7, (.i .i64)), (9, (.sl .str)), (10, (.i .i64)), (11, (.i .i64))], [(0, (.data .str))], 1⟩)] .leaf) .leaf)))))))) .leaf))
noncomputable def S21_0 : Shape := ⟨[(0, (.sl .str)), (3, (.own 0)), (9, (.sl .str)), (10, (.i .i64)), (11, (.i .i64))], [(0, (.data .str))], 1⟩
noncomputable def U21_0 : Outs := [((.exit 0), ⟨[(3, (.own 0))], [(0, (.data .str))], 1⟩)]
noncomputable def B21_0 (p : (((List (List UInt8)) × Unit × (List (List UInt8)) × Int × Int × Unit) × ((List (List UInt8)) × Unit))) : Option ((((List (List UInt8)) × Unit × (List (List UInt8)) × Int × Int × Unit) × ((List (List UInt8)) × Unit)) ⊕ ((Unit × Unit) × ((List (List UInt8)) × Unit))) := (cond (decide (p.1.2.2.2.2.1 < p.1.2.2.2.1)) (Option.bind (cond ((decide ((0:Int) ≤ p.1.2.2.2.2.1)) && (decide (p.1.2.2.2.2.1 < (((List.length p.1.2.2.1) : Nat) : Int)))) (Option.bind (F14 (((List.getD p.1.2.2.1 (Int.toNat p.1.2.2.2.2.1) ([]:List UInt8)), ()), ())) fun r1 => (Option.bind (L21_1 ((p.1.1, (), r1.1, (w64 ((((List.length r1.1) : Nat) : Int) - (1:Int))), p.1.2.2.1, p.1.2.2.2.1, p.1.2.2.2.2.1, ()), (p.2.1, ()))) fun p8 => (some ((p8.1.1, (), p8.1.2.2.1, p8.1.2.2.2.1, p8.1.2.2.2.2.1, ()), (p8.2.1, ()))))) none) fun (p9 : (((List (List UInt8)) × Unit × (List (List UInt8)) × Int × Int × Unit) × ((List (List UInt8)) × Unit))) => (some (Sum.inl ((p9.1.1, (), p9.1.2.2.1, p9.1.2.2.2.1, (w64 (p9.1.2.2.2.2.1 + (1:Int))), ()), (p9.2.1, ()))))) (some (Sum.inr (((), ()), (p.2.1, ())))))
noncomputable def L21_0 (p : (((List (List UInt8)) × Unit × (List (List UInt8)) × Int × Int × Unit) × ((List (List UInt8)) × Unit))) : Option ((Unit × Unit) × ((List (List UInt8)) × Unit)) := loopOf B21_0 p
noncomputable def H21_0 : HT := (.two .leaf (.two .leaf (.two (.join [(.normal, ⟨[(0, (.sl .str)), (3, (.own 0)), (9, (.sl .str)), (10, (.i .i64)), (11, (.i .i64))], [(0, (.data .str))], 1⟩)] (.one (.two .leaf (.one (.two .leaf (.two .leaf (.two .leaf (.one (.loop S21_1 U21_1 L21_1 H21_1))))))))) .leaf)))
noncomputable def F21 (p : ((List (List UInt8)) × Unit) × Unit) : Option ((List (List UInt8)) × Unit) := (Option.bind (Option.bind (L21_0 ((p.1.1, (), p.1.1, (((List.length p.1.1) : Nat) : Int), (0:Int), ()), (([]:List (List UInt8)), ()))) fun p10 => (some (((), ()), (p10.2.1, ())))) fun p11 => (cond (decide ((List.length p11.2.1) < 4611686018427387904)) (cond (decide ((List.length (sortW p11.2.1 0 (List.length p11.2.1))) < 4611686018427387904)) (some ((List.take (compN (sortW p11.2.1 0 (List.length p11.2.1)) 0 (List.length (sortW p11.2.1 0 (List.length p11.2.1)))) (compW (sortW p11.2.1 0 (List.length p11.2.1)) 0 (List.length (sortW p11.2.1 0 (List.length p11.2.1))))), ())) none) none))
noncomputable def O21 : Orc := ⟨(.cons (.sl .str) .nil), [], (.sl .str), [], F21⟩
noncomputable def H21 : HT := (.two .leaf (.two .leaf (.two (.join [(.normal, ⟨[(3, (.own 0))], [(0, (.data .str))], 1⟩)] (.two .leaf (.one (.loop S21_0 U21_0 L21_0 H21_0)))) .leaf)))
noncomputable def X21 : List (FuncId × Orc) := [(14, O14), (32, O32)]
noncomputable def Y21 : List (FuncId × (List AV → Option AV)) := []
noncomputable def Z21 : List (FuncId × Deed) := [(31, (zPvr pJoinS)), (33, zSortT), (34, zCompactT)]
noncomputable def I21 : List FuncId := []
theorem round21_1 (p) : round Go.Proofs.Tryd.prog (callX Go.Proofs.Tryd.prog (lookX X21) (lookM X21) (lookY Y21) (lookZ Z21) (hasN I21) 6) (mild (lookM X21) (lookY Y21)) 0 45 (subc (bodyOf Go.Proofs.Tryd.f21) [true, true, false, true, false, false, true, true, false, false, true, false, true, true, true, false, false]) H21_1 S21_1 U21_1 p = B21_1 p := by kernel_rfl
theorem round21_0 (p) : round Go.Proofs.Tryd.prog (callX Go.Proofs.Tryd.prog (lookX X21) (lookM X21) (lookY Y21) (lookZ Z21) (hasN I21) 6) (mild (lookM X21) (lookY Y21)) 0 45 (subc (bodyOf Go.Proofs.Tryd.f21) [true, true, false, true, false, false]) H21_0 S21_0 U21_0 p = B21_0 p := by kernel_rfl
theorem run21 (p) : evTop Go.Proofs.Tryd.prog (callX Go.Proofs.Tryd.prog (lookX X21) (lookM X21) (lookY Y21) (lookZ Z21) (hasN I21) 6) (mild (lookM X21) (lookY Y21)) Go.Proofs.Tryd.f21 H21 O21 p = F21 p := by kernel_rfl
theorem ok21 : O21.OK Go.Proofs.Tryd.prog 21 :=
  ok_of mixed (X := X21) (Y := Y21) (Z := Z21) (I := I21) (d := 6) ⟨ok14, ⟨ok32, trivial⟩⟩ trivial ⟨zJoin31, ⟨zSort33, ⟨zCompact34, trivial⟩⟩⟩ trivial (by kernel_rfl) Go.Proofs.Tryd.func21 Go.Proofs.Tryd.call21 (c := bodyOf Go.Proofs.Tryd.f21) (by kernel_rfl) (h := H21) (by kernel_rfl)
    (ls := [⟨subc (bodyOf Go.Proofs.Tryd.f21) [true, true, false, true, false, false], H21_0, S21_0, U21_0, L21_0⟩, ⟨subc (bodyOf Go.Proofs.Tryd.f21) [true, true, false, true, false, false, true, true, false, false, true, false, true, true, true, false, false], H21_1, S21_1, U21_1, L21_1⟩]) (by kernel_rfl) ⟨LoopRec.of rfl round21_0, ⟨LoopRec.of rfl round21_1, trivial⟩⟩ run21

/-! pigeonhole/pigeonholeref18.in -/
def S35_0 : Shape := ⟨[(0, (.sl .str)), (1, .s), (5, (.i .i64))], [], 0⟩
def U35_0 : Outs := [((.exit 0), ⟨[], [], 0⟩), (.ret, ⟨[(4, (.kb true))], [], 0⟩)]
def B35_0 (p : (((List (List UInt8)) × (List UInt8) × Int × Unit) × Unit)) : Option ((((List (List UInt8)) × (List UInt8) × Int × Unit) × Unit) ⊕ ((Unit × Unit) ⊕ ((Unit × Unit) × Unit))) := (cond (decide (p.1.2.2.1 < (((List.length p.1.1) : Nat) : Int))) (cond ((decide ((0:Int) ≤ p.1.2.2.1)) && (decide (p.1.2.2.1 < (((List.length p.1.1) : Nat) : Int)))) (cond (decide ((List.getD p.1.1 (Int.toNat p.1.2.2.1) ([]:List UInt8)) = p.1.2.1)) (some (Sum.inr (Sum.inr (((), ()), ())))) (some (Sum.inl ((p.1.1, p.1.2.1, (w64 (p.1.2.2.1 + (1:Int))), ()), ())))) none) (some (Sum.inr (Sum.inl ((), ())))))
def L35_0 (p : (((List (List UInt8)) × (List UInt8) × Int × Unit) × Unit)) : Option ((Unit × Unit) ⊕ ((Unit × Unit) × Unit)) := loopOf B35_0 p
def H35_0 : HT := .leaf
def F35 (p : ((List (List UInt8)) × (List UInt8) × Unit) × Unit) : Option (Bool × Unit) := (Option.bind (Option.bind (L35_0 ((p.1.1, p.1.2.1, (0:Int), ()), ())) fun p1 => (match p1 with | Sum.inl p2 => (some (Sum.inl ((), ()))) | Sum.inr q2 => (some (Sum.inr (((), ()), ()))))) fun p3 => (match p3 with | Sum.inl p4 => (some (false, ())) | Sum.inr q4 => (some (true, ()))))
def O35 : Orc := ⟨(.cons (.sl .str) (.cons .s .nil)), [], .b, [], F35⟩
def H35 : HT := (.two .leaf (.two (.join [(.normal, ⟨[], [], 0⟩), (.ret, ⟨[(4, (.kb true))], [], 0⟩)] (.two .leaf (.one (.loop S35_0 U35_0 L35_0 H35_0)))) .leaf))
def X35 : List (FuncId × Orc) := []
def Y35 : List (FuncId × (List AV → Option AV)) := []
def Z35 : List (FuncId × Deed) := []
def I35 : List FuncId := []
theorem round35_0 (p) : round Go.Proofs.Tryd.prog (callX Go.Proofs.Tryd.prog (lookX X35) (lookM X35) (lookY Y35) (lookZ Z35) (hasN I35) 6) (mild (lookM X35) (lookY Y35)) 0 18 (subc (bodyOf Go.Proofs.Tryd.f35) [true, false, true, false, false]) H35_0 S35_0 U35_0 p = B35_0 p := by kernel_rfl
theorem run35 (p) : evTop Go.Proofs.Tryd.prog (callX Go.Proofs.Tryd.prog (lookX X35) (lookM X35) (lookY Y35) (lookZ Z35) (hasN I35) 6) (mild (lookM X35) (lookY Y35)) Go.Proofs.Tryd.f35 H35 O35 p = F35 p := by kernel_rfl
theorem ok35 : O35.OK Go.Proofs.Tryd.prog 35 :=
  ok_of mixed (X := X35) (Y := Y35) (Z := Z35) (I := I35) (d := 6) trivial trivial trivial trivial (by kernel_rfl) Go.Proofs.Tryd.func35 Go.Proofs.Tryd.call35 (c := bodyOf Go.Proofs.Tryd.f35) (by kernel_rfl) (h := H35) (by kernel_rfl)
    (ls := [⟨subc (bodyOf Go.Proofs.Tryd.f35) [true, false, true, false, false], H35_0, S35_0, U35_0, L35_0⟩]) (by kernel_rfl) ⟨LoopRec.of rfl round35_0, trivial⟩ run35

/-! pigeonhole/pigeonholeref18.lay -/
def S36_0 : Shape := ⟨[(0, (.sl .str)), (1, .s), (5, (.own 0)), (6, .b), (7, (.i .i64))], [(0, (.data .str))], 1⟩
def U36_0 : Outs := [((.exit 0), ⟨[(1, .s), (5, (.own 0)), (6, .b)], [(0, (.data .str))], 1⟩)]
def B36_0 (p : (((List (List UInt8)) × (List UInt8) × Unit × Bool × Int × Unit) × ((List (List UInt8)) × Unit))) : Option ((((List (List UInt8)) × (List UInt8) × Unit × Bool × Int × Unit) × ((List (List UInt8)) × Unit)) ⊕ (((List UInt8) × Unit × Bool × Unit) × ((List (List UInt8)) × Unit))) := (cond (decide (p.1.2.2.2.2.1 < (((List.length p.1.1) : Nat) : Int))) (Option.bind (Option.bind (cond (((decide ((0:Int) ≤ p.1.2.2.2.2.1)) && (decide (p.1.2.2.2.2.1 < (((List.length p.1.1) : Nat) : Int)))) || (!(!p.1.2.2.2.1))) (cond ((!p.1.2.2.2.1) && (Go.Op.bytesLess p.1.2.1 (List.getD p.1.1 (Int.toNat p.1.2.2.2.2.1) ([]:List UInt8)))) (cond (bytesOK ((List.length p.2.1) + (List.length ([p.1.2.1]:List (List UInt8)))) 16) (some ((p.1.1, p.1.2.1, (), true, p.1.2.2.2.2.1, ()), ((p.2.1 ++ ([p.1.2.1]:List (List UInt8))), ()))) none) (some ((p.1.1, p.1.2.1, (), p.1.2.2.2.1, p.1.2.2.2.2.1, ()), (p.2.1, ())))) none) fun (p2 : (((List (List UInt8)) × (List UInt8) × Unit × Bool × Int × Unit) × ((List (List UInt8)) × Unit))) => (Option.bind (cond ((decide ((0:Int) ≤ p2.1.2.2.2.2.1)) && (decide (p2.1.2.2.2.2.1 < (((List.length p2.1.1) : Nat) : Int)))) (cond (bytesOK ((List.length p2.2.1) + (List.length ([(List.getD p2.1.1 (Int.toNat p2.1.2.2.2.2.1) ([]:List UInt8))]:List (List UInt8)))) 16) (some ((p2.1.1, p2.1.2.1, (), p2.1.2.2.2.1, p2.1.2.2.2.2.1, ()), ((p2.2.1 ++ ([(List.getD p2.1.1 (Int.toNat p2.1.2.2.2.2.1) ([]:List UInt8))]:List (List UInt8))), ()))) none) none) fun (p3 : (((List (List UInt8)) × (List UInt8) × Unit × Bool × Int × Unit) × ((List (List UInt8)) × Unit))) => (some ((p3.1.1, p3.1.2.1, (), p3.1.2.2.2.1, p3.1.2.2.2.2.1, ()), (p3.2.1, ()))))) fun (p4 : (((List (List UInt8)) × (List UInt8) × Unit × Bool × Int × Unit) × ((List (List UInt8)) × Unit))) => (some (Sum.inl ((p4.1.1, p4.1.2.1, (), p4.1.2.2.2.1, (w64 (p4.1.2.2.2.2.1 + (1:Int))), ()), (p4.2.1, ()))))) (some (Sum.inr ((p.1.2.1, (), p.1.2.2.2.1, ()), (p.2.1, ())))))
def L36_0 (p : (((List (List UInt8)) × (List UInt8) × Unit × Bool × Int × Unit) × ((List (List UInt8)) × Unit))) : Option (((List UInt8) × Unit × Bool × Unit) × ((List (List UInt8)) × Unit)) := loopOf B36_0 p
def H36_0 : HT := (.two .leaf (.two (.join [(.normal, ⟨[(0, (.sl .str)), (1, .s), (5, (.own 0)), (6, .b), (7, (.i .i64))], [(0, (.data .str))], 1⟩)] (.one (.two (.join [(.normal, ⟨[(0, (.sl .str)), (1, .s), (5, (.own 0)), (6, .b), (7, (.i .i64))], [(0, (.data .str))], 1⟩)] .leaf) (.join [(.normal, ⟨[(0, (.sl .str)), (1, .s), (5, (.own 0)), (6, .b), (7, (.i .i64))], [(0, (.data .str))], 1⟩)] .leaf)))) .leaf))
def F36 (p : ((List (List UInt8)) × (List UInt8) × Unit) × Unit) : Option ((List (List UInt8)) × Unit) := (Option.bind (F35 ((p.1.1, p.1.2.1, ()), ())) fun r1 => (Option.bind (Option.bind (L36_0 ((p.1.1, p.1.2.1, (), r1.1, (0:Int), ()), (([]:List (List UInt8)), ()))) fun p5 => (some ((p5.1.1, (), p5.1.2.2.1, ()), (p5.2.1, ())))) fun p6 => (Option.bind (cond (!p6.1.2.2.1) (cond (bytesOK ((List.length p6.2.1) + (List.length ([p6.1.1]:List (List UInt8)))) 16) (some (((), ()), ((p6.2.1 ++ ([p6.1.1]:List (List UInt8))), ()))) none) (some (((), ()), (p6.2.1, ())))) fun (p7 : ((Unit × Unit) × ((List (List UInt8)) × Unit))) => (some (p7.2.1, ())))))
def O36 : Orc := ⟨(.cons (.sl .str) (.cons .s .nil)), [], (.sl .str), [], F36⟩
def H36 : HT := (.two .leaf (.two .leaf (.two .leaf (.two (.join [(.normal, ⟨[(1, .s), (5, (.own 0)), (6, .b)], [(0, (.data .str))], 1⟩)] (.two .leaf (.one (.loop S36_0 U36_0 L36_0 H36_0)))) (.two (.join [(.normal, ⟨[(5, (.own 0))], [(0, (.data .str))], 1⟩)] .leaf) .leaf)))))
def X36 : List (FuncId × Orc) := [(35, O35)]
def Y36 : List (FuncId × (List AV → Option AV)) := []
def Z36 : List (FuncId × Deed) := []
def I36 : List FuncId := []
theorem round36_0 (p) : round Go.Proofs.Tryd.prog (callX Go.Proofs.Tryd.prog (lookX X36) (lookM X36) (lookY Y36) (lookZ Z36) (hasN I36) 6) (mild (lookM X36) (lookY Y36)) 0 46 (subc (bodyOf Go.Proofs.Tryd.f36) [true, true, true, false, true, false, false]) H36_0 S36_0 U36_0 p = B36_0 p := by kernel_rfl
theorem run36 (p) : evTop Go.Proofs.Tryd.prog (callX Go.Proofs.Tryd.prog (lookX X36) (lookM X36) (lookY Y36) (lookZ Z36) (hasN I36) 6) (mild (lookM X36) (lookY Y36)) Go.Proofs.Tryd.f36 H36 O36 p = F36 p := by kernel_rfl
theorem ok36 : O36.OK Go.Proofs.Tryd.prog 36 :=
  ok_of mixed (X := X36) (Y := Y36) (Z := Z36) (I := I36) (d := 6) ⟨ok35, trivial⟩ trivial trivial trivial (by kernel_rfl) Go.Proofs.Tryd.func36 Go.Proofs.Tryd.call36 (c := bodyOf Go.Proofs.Tryd.f36) (by kernel_rfl) (h := H36) (by kernel_rfl)
    (ls := [⟨subc (bodyOf Go.Proofs.Tryd.f36) [true, true, true, false, true, false, false], H36_0, S36_0, U36_0, L36_0⟩]) (by kernel_rfl) ⟨LoopRec.of rfl round36_0, trivial⟩ run36

/-! pigeonhole/pigeonholeref18.Ahead -/
def S22_1 : Shape := ⟨[(0, (.sl .str)), (3, (.sl .str)), (4, (.i .i64)), (5, (.i .i64))], [], 0⟩
def U22_1 : Outs := [((.exit 2), ⟨[(0, (.sl .str)), (3, (.sl .str)), (4, (.i .i64))], [], 0⟩)]
def B22_1 (p : (((List (List UInt8)) × (List (List UInt8)) × Int × Int × Unit) × Unit)) : Option ((((List (List UInt8)) × (List (List UInt8)) × Int × Int × Unit) × Unit) ⊕ (((List (List UInt8)) × (List (List UInt8)) × Int × Unit) × Unit)) := (cond ((decide ((0:Int) ≤ p.1.2.2.1)) && (decide (p.1.2.2.1 < (((List.length p.1.1) : Nat) : Int)))) (cond (decide (p.1.2.2.2.1 < (((List.length (List.getD p.1.1 (Int.toNat p.1.2.2.1) ([]:List UInt8))) : Nat) : Int))) (Option.bind (cond ((decide ((0:Int) ≤ p.1.2.2.1)) && (decide (p.1.2.2.1 < (((List.length p.1.1) : Nat) : Int)))) (cond ((decide ((0:Int) ≤ p.1.2.2.2.1)) && (decide (p.1.2.2.2.1 < (((List.length (List.getD p.1.1 (Int.toNat p.1.2.2.1) ([]:List UInt8))) : Nat) : Int)))) (cond (((decide ((0:Int) ≤ p.1.2.2.1)) && (decide (p.1.2.2.1 < (((List.length p.1.1) : Nat) : Int)))) || (!(decide ((List.getD (List.getD p.1.1 (Int.toNat p.1.2.2.1) ([]:List UInt8)) (Int.toNat p.1.2.2.2.1) 0) = (47:UInt8))))) (cond (((decide ((0:Int) ≤ p.1.2.2.2.1)) && (decide (p.1.2.2.2.1 ≤ (((List.length (List.getD p.1.1 (Int.toNat p.1.2.2.1) ([]:List UInt8))) : Nat) : Int)))) || (!(decide ((List.getD (List.getD p.1.1 (Int.toNat p.1.2.2.1) ([]:List UInt8)) (Int.toNat p.1.2.2.2.1) 0) = (47:UInt8))))) (cond (decide ((List.getD (List.getD p.1.1 (Int.toNat p.1.2.2.1) ([]:List UInt8)) (Int.toNat p.1.2.2.2.1) 0) = (47:UInt8))) (Option.bind (F35 ((p.1.1, (List.take (Int.toNat p.1.2.2.2.1) (List.getD p.1.1 (Int.toNat p.1.2.2.1) ([]:List UInt8))), ()), ())) fun r1 => (cond (!r1.1) (cond ((decide ((0:Int) ≤ p.1.2.2.1)) && (decide (p.1.2.2.1 < (((List.length p.1.1) : Nat) : Int)))) (cond ((decide ((0:Int) ≤ p.1.2.2.2.1)) && (decide (p.1.2.2.2.1 ≤ (((List.length (List.getD p.1.1 (Int.toNat p.1.2.2.1) ([]:List UInt8))) : Nat) : Int)))) (Option.bind (F36 ((p.1.2.1, (List.take (Int.toNat p.1.2.2.2.1) (List.getD p.1.1 (Int.toNat p.1.2.2.1) ([]:List UInt8))), ()), ())) fun r2 => (some ((p.1.1, r2.1, p.1.2.2.1, p.1.2.2.2.1, ()), ()))) none) none) (some ((p.1.1, p.1.2.1, p.1.2.2.1, p.1.2.2.2.1, ()), ())))) (some ((p.1.1, p.1.2.1, p.1.2.2.1, p.1.2.2.2.1, ()), ()))) none) none) none) none) fun (p3 : (((List (List UInt8)) × (List (List UInt8)) × Int × Int × Unit) × Unit)) => (some (Sum.inl ((p3.1.1, p3.1.2.1, p3.1.2.2.1, (w64 (p3.1.2.2.2.1 + (1:Int))), ()), ())))) (some (Sum.inr ((p.1.1, p.1.2.1, p.1.2.2.1, ()), ())))) none)
def L22_1 (p : (((List (List UInt8)) × (List (List UInt8)) × Int × Int × Unit) × Unit)) : Option (((List (List UInt8)) × (List (List UInt8)) × Int × Unit) × Unit) := loopOf B22_1 p
def H22_1 : HT := (.two .leaf (.two (.join [(.normal, ⟨[(0, (.sl .str)), (3, (.sl .str)), (4, (.i .i64)), (5, (.i .i64))], [], 0⟩)] .leaf) .leaf))
def S22_0 : Shape := ⟨[(0, (.sl .str)), (3, (.sl .str)), (4, (.i .i64))], [], 0⟩
def U22_0 : Outs := [((.exit 0), ⟨[(3, (.sl .str))], [], 0⟩)]
def B22_0 (p : (((List (List UInt8)) × (List (List UInt8)) × Int × Unit) × Unit)) : Option ((((List (List UInt8)) × (List (List UInt8)) × Int × Unit) × Unit) ⊕ (((List (List UInt8)) × Unit) × Unit)) := (cond (decide (p.1.2.2.1 < (((List.length p.1.1) : Nat) : Int))) (Option.bind (Option.bind (L22_1 ((p.1.1, p.1.2.1, p.1.2.2.1, (1:Int), ()), ())) fun p4 => (some ((p4.1.1, p4.1.2.1, p4.1.2.2.1, ()), ()))) fun p5 => (some (Sum.inl ((p5.1.1, p5.1.2.1, (w64 (p5.1.2.2.1 + (1:Int))), ()), ())))) (some (Sum.inr ((p.1.2.1, ()), ()))))
def L22_0 (p : (((List (List UInt8)) × (List (List UInt8)) × Int × Unit) × Unit)) : Option (((List (List UInt8)) × Unit) × Unit) := loopOf B22_0 p
def H22_0 : HT := (.two .leaf (.two (.join [(.normal, ⟨[(0, (.sl .str)), (3, (.sl .str)), (4, (.i .i64))], [], 0⟩)] (.one (.two .leaf (.one (.loop S22_1 U22_1 L22_1 H22_1))))) .leaf))
def F22 (p : ((List (List UInt8)) × Unit) × Unit) : Option ((List (List UInt8)) × Unit) := (Option.bind (Option.bind (L22_0 ((p.1.1, ([]:List (List UInt8)), (0:Int), ()), ())) fun p6 => (some ((p6.1.1, ()), ()))) fun p7 => (some (p7.1.1, ())))
def O22 : Orc := ⟨(.cons (.sl .str) .nil), [], (.sl .str), [], F22⟩
def H22 : HT := (.two .leaf (.two .leaf (.two (.join [(.normal, ⟨[(3, (.sl .str))], [], 0⟩)] (.two .leaf (.one (.loop S22_0 U22_0 L22_0 H22_0)))) .leaf)))
def X22 : List (FuncId × Orc) := [(35, O35), (36, O36)]
def Y22 : List (FuncId × (List AV → Option AV)) := []
def Z22 : List (FuncId × Deed) := []
def I22 : List FuncId := []
theorem round22_1 (p) : round Go.Proofs.Tryd.prog (callX Go.Proofs.Tryd.prog (lookX X22) (lookM X22) (lookY Y22) (lookZ Z22) (hasN I22) 6) (mild (lookM X22) (lookY Y22)) 0 49 (subc (bodyOf Go.Proofs.Tryd.f22) [true, true, false, true, false, false, true, false, false, true, false, false]) H22_1 S22_1 U22_1 p = B22_1 p := by kernel_rfl
theorem round22_0 (p) : round Go.Proofs.Tryd.prog (callX Go.Proofs.Tryd.prog (lookX X22) (lookM X22) (lookY Y22) (lookZ Z22) (hasN I22) 6) (mild (lookM X22) (lookY Y22)) 0 49 (subc (bodyOf Go.Proofs.Tryd.f22) [true, true, false, true, false, false]) H22_0 S22_0 U22_0 p = B22_0 p := by kernel_rfl
theorem run22 (p) : evTop Go.Proofs.Tryd.prog (callX Go.Proofs.Tryd.prog (lookX X22) (lookM X22) (lookY Y22) (lookZ Z22) (hasN I22) 6) (mild (lookM X22) (lookY Y22)) Go.Proofs.Tryd.f22 H22 O22 p = F22 p := by kernel_rfl
theorem ok22 : O22.OK Go.Proofs.Tryd.prog 22 :=
  ok_of mixed (X := X22) (Y := Y22) (Z := Z22) (I := I22) (d := 6) ⟨ok35, ⟨ok36, trivial⟩⟩ trivial trivial trivial (by kernel_rfl) Go.Proofs.Tryd.func22 Go.Proofs.Tryd.call22 (c := bodyOf Go.Proofs.Tryd.f22) (by kernel_rfl) (h := H22) (by kernel_rfl)
    (ls := [⟨subc (bodyOf Go.Proofs.Tryd.f22) [true, true, false, true, false, false], H22_0, S22_0, U22_0, L22_0⟩, ⟨subc (bodyOf Go.Proofs.Tryd.f22) [true, true, false, true, false, false, true, false, false, true, false, false], H22_1, S22_1, U22_1, L22_1⟩]) (by kernel_rfl) ⟨LoopRec.of rfl round22_0, ⟨LoopRec.of rfl round22_1, trivial⟩⟩ run22

/-! slices.Clone[[]string,string] -/
noncomputable def F37 (p : ((List (List UInt8)) × Unit) × Unit) : Option (Unit × ((List (List UInt8)) × Unit)) := (cond (List.isEmpty p.1.1) (agr (some ((), (([]:List (List UInt8)), ()))) (cond (bytesOK ((List.length ([]:List (List UInt8))) + (List.length p.1.1)) 16) (some ((), ((([]:List (List UInt8)) ++ p.1.1), ()))) none)) (cond (bytesOK ((List.length ([]:List (List UInt8))) + (List.length p.1.1)) 16) (some ((), ((([]:List (List UInt8)) ++ p.1.1), ()))) none))
noncomputable def O37 : Orc := ⟨(.cons (.sl .str) .nil), [], (.own 0), [(0, (.data .str))], F37⟩
noncomputable def H37 : HT := .leaf
noncomputable def X37 : List (FuncId × Orc) := []
noncomputable def Y37 : List (FuncId × (List AV → Option AV)) := []
noncomputable def Z37 : List (FuncId × Deed) := []
noncomputable def I37 : List FuncId := []
theorem run37 (p) : evTop Go.Proofs.Tryd.prog (callX Go.Proofs.Tryd.prog (lookX X37) (lookM X37) (lookY Y37) (lookZ Z37) (hasN I37) 6) (mild (lookM X37) (lookY Y37)) Go.Proofs.Tryd.f37 H37 O37 p = F37 p := by kernel_rfl
theorem ok37 : O37.OK Go.Proofs.Tryd.prog 37 :=
  ok_of mixed (X := X37) (Y := Y37) (Z := Z37) (I := I37) (d := 6) trivial trivial trivial trivial (by kernel_rfl) Go.Proofs.Tryd.func37 Go.Proofs.Tryd.call37 (c := bodyOf Go.Proofs.Tryd.f37) (by kernel_rfl) (h := H37) (by kernel_rfl)
    (ls := []) (by kernel_rfl) trivial run37

/-! pigeonhole/glob.Pick$1 -/
def F39 (p : ((List UInt8) × Unit × Unit × Unit) × (((List UInt8) × Unit) × ((List UInt8) × Unit) × Unit)) : Option (Bool × (((List UInt8) × Unit) × ((List UInt8) × Unit) × Unit)) := (cond (fits (List.length p.2.1.1 + List.length p.2.2.1.1)) (Option.bind (F10 (((p.2.1.1 ++ p.2.2.1.1), p.1.1, ()), ())) fun r1 => (some ((!r1.1), ((p.2.1.1, ()), (p.2.2.1.1, ()), ())))) none)
def O39 : Orc := ⟨(.cons .s (.cons (.ptr 0 0) (.cons (.ptr 1 0) .nil))), [(0, (.vars (.cons .s .nil))), (1, (.vars (.cons .s .nil)))], .b, [(0, (.vars (.cons .s .nil))), (1, (.vars (.cons .s .nil)))], F39⟩
def H39 : HT := .leaf
def X39 : List (FuncId × Orc) := [(10, O10)]
def Y39 : List (FuncId × (List AV → Option AV)) := []
def Z39 : List (FuncId × Deed) := []
def I39 : List FuncId := []
theorem run39 (p) : evTop Go.Proofs.Tryd.prog (callX Go.Proofs.Tryd.prog (lookX X39) (lookM X39) (lookY Y39) (lookZ Z39) (hasN I39) 6) (mild (lookM X39) (lookY Y39)) Go.Proofs.Tryd.f39 H39 O39 p = F39 p := by kernel_rfl
theorem ok39 : O39.OK Go.Proofs.Tryd.prog 39 :=
  ok_of mixed (X := X39) (Y := Y39) (Z := Z39) (I := I39) (d := 6) ⟨ok10, trivial⟩ trivial trivial trivial (by kernel_rfl) Go.Proofs.Tryd.func39 Go.Proofs.Tryd.call39 (c := bodyOf Go.Proofs.Tryd.f39) (by kernel_rfl) (h := H39) (by kernel_rfl)
    (ls := []) (by kernel_rfl) trivial run39

/-! slices.IndexFunc[[]string,string] -/
def S49c39_0 : Shape := ⟨[(0, (.sl .str)), (1, (.fn 39 (.cons (.ptr 0 0) (.cons (.ptr 1 0) .nil)))), (7, (.i .i64)), (8, (.i .i64))], [(0, (.vars (.cons .s .nil))), (1, (.vars (.cons .s .nil)))], 2⟩
def U49c39_0 : Outs := [((.exit 0), ⟨[(1, (.fn 39 (.cons (.ptr 0 0) (.cons (.ptr 1 0) .nil))))], [(0, (.vars (.cons .s .nil))), (1, (.vars (.cons .s .nil)))], 2⟩), (.ret, ⟨[(1, (.fn 39 (.cons (.ptr 0 0) (.cons (.ptr 1 0) .nil)))), (4, (.i .i64))], [(0, (.vars (.cons .s .nil))), (1, (.vars (.cons .s .nil)))], 2⟩)]
def B49c39_0 (p : (((List (List UInt8)) × (Unit × Unit × Unit) × Int × Int × Unit) × (((List UInt8) × Unit) × ((List UInt8) × Unit) × Unit))) : Option ((((List (List UInt8)) × (Unit × Unit × Unit) × Int × Int × Unit) × (((List UInt8) × Unit) × ((List UInt8) × Unit) × Unit)) ⊕ ((((Unit × Unit × Unit) × Unit) × (((List UInt8) × Unit) × ((List UInt8) × Unit) × Unit)) ⊕ (((Unit × Unit × Unit) × Int × Unit) × (((List UInt8) × Unit) × ((List UInt8) × Unit) × Unit)))) := (cond (decide (p.1.2.2.2.1 < p.1.2.2.1)) (cond ((decide ((0:Int) ≤ p.1.2.2.2.1)) && (decide (p.1.2.2.2.1 < (((List.length p.1.1) : Nat) : Int)))) (Option.bind (F39 (((List.getD p.1.1 (Int.toNat p.1.2.2.2.1) ([]:List UInt8)), (), (), ()), ((p.2.1.1, ()), (p.2.2.1.1, ()), ()))) fun r1 => (cond r1.1 (some (Sum.inr (Sum.inr ((((), (), ()), p.1.2.2.2.1, ()), ((r1.2.1.1, ()), (r1.2.2.1.1, ()), ()))))) (some (Sum.inl ((p.1.1, ((), (), ()), p.1.2.2.1, (w64 (p.1.2.2.2.1 + (1:Int))), ()), ((r1.2.1.1, ()), (r1.2.2.1.1, ()), ())))))) none) (some (Sum.inr (Sum.inl ((((), (), ()), ()), ((p.2.1.1, ()), (p.2.2.1.1, ()), ()))))))
def L49c39_0 (p : (((List (List UInt8)) × (Unit × Unit × Unit) × Int × Int × Unit) × (((List UInt8) × Unit) × ((List UInt8) × Unit) × Unit))) : Option ((((Unit × Unit × Unit) × Unit) × (((List UInt8) × Unit) × ((List UInt8) × Unit) × Unit)) ⊕ (((Unit × Unit × Unit) × Int × Unit) × (((List UInt8) × Unit) × ((List UInt8) × Unit) × Unit))) := loopOf B49c39_0 p
def H49c39_0 : HT := .leaf
def F49c39 (p : ((List (List UInt8)) × (Unit × Unit × Unit) × Unit) × (((List UInt8) × Unit) × ((List UInt8) × Unit) × Unit)) : Option (Int × (((List UInt8) × Unit) × ((List UInt8) × Unit) × Unit)) := (Option.bind (Option.bind (L49c39_0 ((p.1.1, ((), (), ()), (((List.length p.1.1) : Nat) : Int), (0:Int), ()), ((p.2.1.1, ()), (p.2.2.1.1, ()), ()))) fun p2 => (match p2 with | Sum.inl p3 => (some (Sum.inl ((((), (), ()), ()), ((p3.2.1.1, ()), (p3.2.2.1.1, ()), ())))) | Sum.inr q3 => (some (Sum.inr ((((), (), ()), q3.1.2.1, ()), ((q3.2.1.1, ()), (q3.2.2.1.1, ()), ())))))) fun p4 => (match p4 with | Sum.inl p5 => (some ((-1:Int), ((p5.2.1.1, ()), (p5.2.2.1.1, ()), ()))) | Sum.inr q5 => (some (q5.1.2.1, ((q5.2.1.1, ()), (q5.2.2.1.1, ()), ())))))
def O49c39 : Orc := ⟨(.cons (.sl .str) (.cons (.fn 39 (.cons (.ptr 0 0) (.cons (.ptr 1 0) .nil))) .nil)), [(0, (.vars (.cons .s .nil))), (1, (.vars (.cons .s .nil)))], (.i .i64), [(0, (.vars (.cons .s .nil))), (1, (.vars (.cons .s .nil)))], F49c39⟩
def H49c39 : HT := (.two .leaf (.two (.join [(.normal, ⟨[(1, (.fn 39 (.cons (.ptr 0 0) (.cons (.ptr 1 0) .nil))))], [(0, (.vars (.cons .s .nil))), (1, (.vars (.cons .s .nil)))], 2⟩), (.ret, ⟨[(1, (.fn 39 (.cons (.ptr 0 0) (.cons (.ptr 1 0) .nil)))), (4, (.i .i64))], [(0, (.vars (.cons .s .nil))), (1, (.vars (.cons .s .nil)))], 2⟩)] (.two .leaf (.one (.loop S49c39_0 U49c39_0 L49c39_0 H49c39_0)))) .leaf))
def X49c39 : List (FuncId × Orc) := [(39, O39)]
def Y49c39 : List (FuncId × (List AV → Option AV)) := []
def Z49c39 : List (FuncId × Deed) := []
def I49c39 : List FuncId := []
theorem round49c39_0 (p) : round Go.Proofs.Tryd.prog (callX Go.Proofs.Tryd.prog (lookX X49c39) (lookM X49c39) (lookY Y49c39) (lookZ Z49c39) (hasN I49c39) 6) (mild (lookM X49c39) (lookY Y49c39)) 2 19 (subc (bodyOf Go.Proofs.Tryd.f49) [true, false, true, false, false]) H49c39_0 S49c39_0 U49c39_0 p = B49c39_0 p := by kernel_rfl
theorem run49c39 (p) : evTop Go.Proofs.Tryd.prog (callX Go.Proofs.Tryd.prog (lookX X49c39) (lookM X49c39) (lookY Y49c39) (lookZ Z49c39) (hasN I49c39) 6) (mild (lookM X49c39) (lookY Y49c39)) Go.Proofs.Tryd.f49 H49c39 O49c39 p = F49c39 p := by kernel_rfl
theorem ok49c39 : O49c39.OK Go.Proofs.Tryd.prog 49 :=
  ok_of mixed (X := X49c39) (Y := Y49c39) (Z := Z49c39) (I := I49c39) (d := 6) ⟨ok39, trivial⟩ trivial trivial trivial (by kernel_rfl) Go.Proofs.Tryd.func49 Go.Proofs.Tryd.call49 (c := bodyOf Go.Proofs.Tryd.f49) (by kernel_rfl) (h := H49c39) (by kernel_rfl)
    (ls := [⟨subc (bodyOf Go.Proofs.Tryd.f49) [true, false, true, false, false], H49c39_0, S49c39_0, U49c39_0, L49c39_0⟩]) (by kernel_rfl) ⟨LoopRec.of rfl round49c39_0, trivial⟩ run49c39

/-! slices.DeleteFunc[[]string,string] -/
def S38c39_0 : Shape := ⟨[(0, (.own 0)), (1, (.fn 39 (.cons (.ptr 1 0) (.cons (.ptr 2 0) .nil)))), (5, (.i .i64)), (6, (.i .i64))], [(0, (.data .str)), (1, (.vars (.cons .s .nil))), (2, (.vars (.cons .s .nil)))], 3⟩
def U38c39_0 : Outs := [((.exit 0), ⟨[(0, (.own 0)), (1, (.fn 39 (.cons (.ptr 1 0) (.cons (.ptr 2 0) .nil)))), (5, (.i .i64))], [(0, (.data .str)), (1, (.vars (.cons .s .nil))), (2, (.vars (.cons .s .nil)))], 3⟩)]
def B38c39_0 (p : ((Unit × (Unit × Unit × Unit) × Int × Int × Unit) × ((List (List UInt8)) × ((List UInt8) × Unit) × ((List UInt8) × Unit) × Unit))) : Option (((Unit × (Unit × Unit × Unit) × Int × Int × Unit) × ((List (List UInt8)) × ((List UInt8) × Unit) × ((List UInt8) × Unit) × Unit)) ⊕ ((Unit × (Unit × Unit × Unit) × Int × Unit) × ((List (List UInt8)) × ((List UInt8) × Unit) × ((List UInt8) × Unit) × Unit))) := (cond (decide (p.1.2.2.2.1 < (((List.length p.2.1) : Nat) : Int))) (Option.bind (cond ((decide ((0:Int) ≤ p.1.2.2.2.1)) && (decide (p.1.2.2.2.1 < (((List.length p.2.1) : Nat) : Int)))) (Option.bind (F39 (((List.getD p.2.1 (Int.toNat p.1.2.2.2.1) ([]:List UInt8)), (), (), ()), ((p.2.2.1.1, ()), (p.2.2.2.1.1, ()), ()))) fun r2 => (cond (!r2.1) (Option.bind (cond ((decide ((0:Int) ≤ p.1.2.2.1)) && (decide (p.1.2.2.1 < (((List.length p.2.1) : Nat) : Int)))) (some (((), ((), (), ()), p.1.2.2.1, p.1.2.2.2.1, ()), ((List.set p.2.1 (Int.toNat p.1.2.2.1) (List.getD p.2.1 (Int.toNat p.1.2.2.2.1) ([]:List UInt8))), (r2.2.1.1, ()), (r2.2.2.1.1, ()), ()))) none) fun (p3 : ((Unit × (Unit × Unit × Unit) × Int × Int × Unit) × ((List (List UInt8)) × ((List UInt8) × Unit) × ((List UInt8) × Unit) × Unit))) => (Option.bind (some (((), ((), (), ()), (w64 (p3.1.2.2.1 + (1:Int))), p3.1.2.2.2.1, ()), (p3.2.1, (p3.2.2.1.1, ()), (p3.2.2.2.1.1, ()), ()))) fun p4 => (some (((), ((), (), ()), p4.1.2.2.1, p4.1.2.2.2.1, ()), (p4.2.1, (p4.2.2.1.1, ()), (p4.2.2.2.1.1, ()), ()))))) (some (((), ((), (), ()), p.1.2.2.1, p.1.2.2.2.1, ()), (p.2.1, (r2.2.1.1, ()), (r2.2.2.1.1, ()), ()))))) none) fun (p5 : ((Unit × (Unit × Unit × Unit) × Int × Int × Unit) × ((List (List UInt8)) × ((List UInt8) × Unit) × ((List UInt8) × Unit) × Unit))) => (some (Sum.inl (((), ((), (), ()), p5.1.2.2.1, (w64 (p5.1.2.2.2.1 + (1:Int))), ()), (p5.2.1, (p5.2.2.1.1, ()), (p5.2.2.2.1.1, ()), ()))))) (some (Sum.inr (((), ((), (), ()), p.1.2.2.1, ()), (p.2.1, (p.2.2.1.1, ()), (p.2.2.2.1.1, ()), ())))))
def L38c39_0 (p : ((Unit × (Unit × Unit × Unit) × Int × Int × Unit) × ((List (List UInt8)) × ((List UInt8) × Unit) × ((List UInt8) × Unit) × Unit))) : Option ((Unit × (Unit × Unit × Unit) × Int × Unit) × ((List (List UInt8)) × ((List UInt8) × Unit) × ((List UInt8) × Unit) × Unit)) := loopOf B38c39_0 p
def H38c39_0 : HT := (.two .leaf (.two (.join [(.normal, ⟨[(0, (.own 0)), (1, (.fn 39 (.cons (.ptr 1 0) (.cons (.ptr 2 0) .nil)))), (5, (.i .i64)), (6, (.i .i64))], [(0, (.data .str)), (1, (.vars (.cons .s .nil))), (2, (.vars (.cons .s .nil)))], 3⟩)] (.one (.two .leaf (.two .leaf (.two (.two (.join [(.normal, ⟨[(0, (.own 0)), (1, (.fn 39 (.cons (.ptr 1 0) (.cons (.ptr 2 0) .nil)))), (5, (.i .i64)), (6, (.i .i64))], [(0, (.data .str)), (1, (.vars (.cons .s .nil))), (2, (.vars (.cons .s .nil)))], 3⟩)] .leaf) (.join [(.normal, ⟨[(0, (.own 0)), (1, (.fn 39 (.cons (.ptr 1 0) (.cons (.ptr 2 0) .nil)))), (5, (.i .i64)), (6, (.i .i64))], [(0, (.data .str)), (1, (.vars (.cons .s .nil))), (2, (.vars (.cons .s .nil)))], 3⟩)] .leaf)) .leaf))))) .leaf))
def F38c39 (p : (Unit × (Unit × Unit × Unit) × Unit) × ((List (List UInt8)) × ((List UInt8) × Unit) × ((List UInt8) × Unit) × Unit)) : Option ((Nat × Nat) × ((List (List UInt8)) × ((List UInt8) × Unit) × ((List UInt8) × Unit) × Unit)) := (Option.bind (F49c39 ((p.2.1, ((), (), ()), ()), ((p.2.2.1.1, ()), (p.2.2.2.1.1, ()), ()))) fun r1 => (cond (decide (r1.1 = (-1:Int))) (some ((0, (List.length p.2.1)), (p.2.1, (r1.2.1.1, ()), (r1.2.2.1.1, ()), ()))) (Option.bind (Option.bind (L38c39_0 (((), ((), (), ()), r1.1, (w64 (r1.1 + (1:Int))), ()), (p.2.1, (r1.2.1.1, ()), (r1.2.2.1.1, ()), ()))) fun p6 => (some (((), ((), (), ()), p6.1.2.2.1, ()), (p6.2.1, (p6.2.2.1.1, ()), (p6.2.2.2.1.1, ()), ())))) fun p7 => (Option.bind (cond (((decide ((0:Int) ≤ p7.1.2.2.1)) && (decide (p7.1.2.2.1 ≤ (((List.length p7.2.1) : Nat) : Int)))) && (decide ((((List.length p7.2.1) : Nat) : Int) ≤ (((List.length p7.2.1) : Nat) : Int)))) (some (((), ((), (), ()), p7.1.2.2.1, ()), ((List.take (Int.toNat p7.1.2.2.1) p7.2.1 ++ List.replicate ((Int.toNat (((List.length p7.2.1) : Nat) : Int)) - (Int.toNat p7.1.2.2.1)) ([]:List UInt8) ++ List.drop ((Int.toNat p7.1.2.2.1) + ((Int.toNat (((List.length p7.2.1) : Nat) : Int)) - (Int.toNat p7.1.2.2.1))) p7.2.1), (p7.2.2.1.1, ()), (p7.2.2.2.1.1, ()), ()))) none) fun (p8 : ((Unit × (Unit × Unit × Unit) × Int × Unit) × ((List (List UInt8)) × ((List UInt8) × Unit) × ((List UInt8) × Unit) × Unit))) => (Option.bind (cond ((decide ((0:Int) ≤ p8.1.2.2.1)) && (decide (p8.1.2.2.1 ≤ (((List.length p8.2.1) : Nat) : Int)))) (some (((), ((), (), ()), (0, (Int.toNat p8.1.2.2.1)), ()), (p8.2.1, (p8.2.2.1.1, ()), (p8.2.2.2.1.1, ()), ()))) none) fun (p9 : ((Unit × (Unit × Unit × Unit) × (Nat × Nat) × Unit) × ((List (List UInt8)) × ((List UInt8) × Unit) × ((List UInt8) × Unit) × Unit))) => (some ((p9.1.2.2.1.1, p9.1.2.2.1.2), (p9.2.1, (p9.2.2.1.1, ()), (p9.2.2.2.1.1, ()), ()))))))))
def O38c39 : Orc := ⟨(.cons (.own 0) (.cons (.fn 39 (.cons (.ptr 1 0) (.cons (.ptr 2 0) .nil))) .nil)), [(0, (.data .str)), (1, (.vars (.cons .s .nil))), (2, (.vars (.cons .s .nil)))], (.win 0), [(0, (.data .str)), (1, (.vars (.cons .s .nil))), (2, (.vars (.cons .s .nil)))], F38c39⟩
def H38c39 : HT := (.two .leaf (.two .leaf (.two .leaf (.two (.join [(.normal, ⟨[(0, (.own 0)), (1, (.fn 39 (.cons (.ptr 1 0) (.cons (.ptr 2 0) .nil)))), (5, (.i .i64))], [(0, (.data .str)), (1, (.vars (.cons .s .nil))), (2, (.vars (.cons .s .nil)))], 3⟩)] (.two .leaf (.one (.loop S38c39_0 U38c39_0 L38c39_0 H38c39_0)))) (.two (.join [(.normal, ⟨[(0, (.own 0)), (1, (.fn 39 (.cons (.ptr 1 0) (.cons (.ptr 2 0) .nil)))), (5, (.i .i64))], [(0, (.data .str)), (1, (.vars (.cons .s .nil))), (2, (.vars (.cons .s .nil)))], 3⟩)] .leaf) (.two (.join [(.normal, ⟨[(0, (.own 0)), (1, (.fn 39 (.cons (.ptr 1 0) (.cons (.ptr 2 0) .nil)))), (4, (.win 0))], [(0, (.data .str)), (1, (.vars (.cons .s .nil))), (2, (.vars (.cons .s .nil)))], 3⟩)] .leaf) .leaf))))))
def X38c39 : List (FuncId × Orc) := [(39, O39), (49, O49c39)]
def Y38c39 : List (FuncId × (List AV → Option AV)) := []
def Z38c39 : List (FuncId × Deed) := []
def I38c39 : List FuncId := []
theorem round38c39_0 (p) : round Go.Proofs.Tryd.prog (callX Go.Proofs.Tryd.prog (lookX X38c39) (lookM X38c39) (lookY Y38c39) (lookZ Z38c39) (hasN I38c39) 6) (mild (lookM X38c39) (lookY Y38c39)) 3 42 (subc (bodyOf Go.Proofs.Tryd.f38) [true, true, true, false, true, false, false]) H38c39_0 S38c39_0 U38c39_0 p = B38c39_0 p := by kernel_rfl
theorem run38c39 (p) : evTop Go.Proofs.Tryd.prog (callX Go.Proofs.Tryd.prog (lookX X38c39) (lookM X38c39) (lookY Y38c39) (lookZ Z38c39) (hasN I38c39) 6) (mild (lookM X38c39) (lookY Y38c39)) Go.Proofs.Tryd.f38 H38c39 O38c39 p = F38c39 p := by kernel_rfl
theorem ok38c39 : O38c39.OK Go.Proofs.Tryd.prog 38 :=
  ok_of mixed (X := X38c39) (Y := Y38c39) (Z := Z38c39) (I := I38c39) (d := 6) ⟨ok39, ⟨ok49c39, trivial⟩⟩ trivial trivial trivial (by kernel_rfl) Go.Proofs.Tryd.func38 Go.Proofs.Tryd.call38 (c := bodyOf Go.Proofs.Tryd.f38) (by kernel_rfl) (h := H38c39) (by kernel_rfl)
    (ls := [⟨subc (bodyOf Go.Proofs.Tryd.f38) [true, true, true, false, true, false, false], H38c39_0, S38c39_0, U38c39_0, L38c39_0⟩]) (by kernel_rfl) ⟨LoopRec.of rfl round38c39_0, trivial⟩ run38c39

/-! pigeonhole/glob.Pick -/
noncomputable def F23 (p : ((List (List UInt8)) × (List UInt8) × (List UInt8) × Unit) × Unit) : Option ((List (List UInt8)) × Unit) := (Option.bind (F37 ((p.1.1, ()), ())) fun r1 => (Option.bind (F21 ((p.1.1, ()), ())) fun r2 => (cond (bytesOK ((List.length r1.2.1) + (List.length r2.1)) 16) (Option.bind (F38c39 (((), ((), (), ()), ()), ((r1.2.1 ++ r2.1), (p.1.2.1, ()), (p.1.2.2.1, ()), ()))) fun r3 => (cond (decide ((List.length r3.2.1) < 4611686018427387904)) (cond (decide ((List.length (sortW r3.2.1 r3.1.1 r3.1.2)) < 4611686018427387904)) (some ((List.take (compN (sortW r3.2.1 r3.1.1 r3.1.2) r3.1.1 r3.1.2) (List.drop r3.1.1 (compW (sortW r3.2.1 r3.1.1 r3.1.2) r3.1.1 r3.1.2))), ())) none) none)) none)))
noncomputable def O23 : Orc := ⟨(.cons (.sl .str) (.cons .s (.cons .s .nil))), [], (.sl .str), [], F23⟩
noncomputable def H23 : HT := .leaf
noncomputable def X23 : List (FuncId × Orc) := [(21, O21), (37, O37), (38, O38c39)]
noncomputable def Y23 : List (FuncId × (List AV → Option AV)) := []
noncomputable def Z23 : List (FuncId × Deed) := [(33, zSortT), (34, zCompactT)]
noncomputable def I23 : List FuncId := []
theorem run23 (p) : evTop Go.Proofs.Tryd.prog (callX Go.Proofs.Tryd.prog (lookX X23) (lookM X23) (lookY Y23) (lookZ Z23) (hasN I23) 6) (mild (lookM X23) (lookY Y23)) Go.Proofs.Tryd.f23 H23 O23 p = F23 p := by kernel_rfl
theorem ok23 : O23.OK Go.Proofs.Tryd.prog 23 :=
  ok_of mixed (X := X23) (Y := Y23) (Z := Z23) (I := I23) (d := 6) ⟨ok21, ⟨ok37, ⟨ok38c39, trivial⟩⟩⟩ trivial ⟨zSort33, ⟨zCompact34, trivial⟩⟩ trivial (by kernel_rfl) Go.Proofs.Tryd.func23 Go.Proofs.Tryd.call23 (c := bodyOf Go.Proofs.Tryd.f23) (by kernel_rfl) (h := H23) (by kernel_rfl)
    (ls := []) (by kernel_rfl) trivial run23

/-! pigeonhole/pigeonholeref18.Pick -/
def S24_0 : Shape := ⟨[(1, .s), (2, .s), (7, (.sl .str)), (8, (.own 0)), (9, (.i .i64))], [(0, (.data .str))], 1⟩
def U24_0 : Outs := [((.exit 0), ⟨[(7, (.sl .str))], [], 0⟩)]
def B24_0 (p : (((List UInt8) × (List UInt8) × (List (List UInt8)) × Unit × Int × Unit) × ((List (List UInt8)) × Unit))) : Option ((((List UInt8) × (List UInt8) × (List (List UInt8)) × Unit × Int × Unit) × ((List (List UInt8)) × Unit)) ⊕ (((List (List UInt8)) × Unit) × Unit)) := (cond (decide (p.1.2.2.2.2.1 < (((List.length p.2.1) : Nat) : Int))) (Option.bind (cond (fits (List.length p.1.1 + List.length p.1.2.1)) (cond ((decide ((0:Int) ≤ p.1.2.2.2.2.1)) && (decide (p.1.2.2.2.2.1 < (((List.length p.2.1) : Nat) : Int)))) (Option.bind (F11 (((p.1.1 ++ p.1.2.1), (List.getD p.2.1 (Int.toNat p.1.2.2.2.2.1) ([]:List UInt8)), ()), ())) fun r2 => (cond r2.1 (cond ((decide ((0:Int) ≤ p.1.2.2.2.2.1)) && (decide (p.1.2.2.2.2.1 < (((List.length p.2.1) : Nat) : Int)))) (Option.bind (F36 ((p.1.2.2.1, (List.getD p.2.1 (Int.toNat p.1.2.2.2.2.1) ([]:List UInt8)), ()), ())) fun r3 => (some ((p.1.1, p.1.2.1, r3.1, (), p.1.2.2.2.2.1, ()), (p.2.1, ())))) none) (some ((p.1.1, p.1.2.1, p.1.2.2.1, (), p.1.2.2.2.2.1, ()), (p.2.1, ()))))) none) none) fun (p4 : (((List UInt8) × (List UInt8) × (List (List UInt8)) × Unit × Int × Unit) × ((List (List UInt8)) × Unit))) => (some (Sum.inl ((p4.1.1, p4.1.2.1, p4.1.2.2.1, (), (w64 (p4.1.2.2.2.2.1 + (1:Int))), ()), (p4.2.1, ()))))) (some (Sum.inr ((p.1.2.2.1, ()), ()))))
def L24_0 (p : (((List UInt8) × (List UInt8) × (List (List UInt8)) × Unit × Int × Unit) × ((List (List UInt8)) × Unit))) : Option (((List (List UInt8)) × Unit) × Unit) := loopOf B24_0 p
def H24_0 : HT := (.two .leaf (.two (.join [(.normal, ⟨[(1, .s), (2, .s), (7, (.sl .str)), (8, (.own 0)), (9, (.i .i64))], [(0, (.data .str))], 1⟩)] .leaf) .leaf))
def F24 (p : ((List (List UInt8)) × (List UInt8) × (List UInt8) × Unit) × Unit) : Option ((List (List UInt8)) × Unit) := (cond (bytesOK ((List.length ([]:List (List UInt8))) + (List.length p.1.1)) 16) (Option.bind (F22 ((p.1.1, ()), ())) fun r1 => (cond (bytesOK ((List.length (([]:List (List UInt8)) ++ p.1.1)) + (List.length r1.1)) 16) (Option.bind (Option.bind (L24_0 ((p.1.2.1, p.1.2.2.1, ([]:List (List UInt8)), (), (0:Int), ()), (((([]:List (List UInt8)) ++ p.1.1) ++ r1.1), ()))) fun p5 => (some ((p5.1.1, ()), ()))) fun p6 => (some (p6.1.1, ()))) none)) none)
def O24 : Orc := ⟨(.cons (.sl .str) (.cons .s (.cons .s .nil))), [], (.sl .str), [], F24⟩
def H24 : HT := (.two .leaf (.two .leaf (.two .leaf (.two (.join [(.normal, ⟨[(7, (.sl .str))], [], 0⟩)] (.two .leaf (.one (.loop S24_0 U24_0 L24_0 H24_0)))) .leaf))))
def X24 : List (FuncId × Orc) := [(11, O11), (22, O22), (36, O36)]
def Y24 : List (FuncId × (List AV → Option AV)) := []
def Z24 : List (FuncId × Deed) := []
def I24 : List FuncId := []
theorem round24_0 (p) : round Go.Proofs.Tryd.prog (callX Go.Proofs.Tryd.prog (lookX X24) (lookM X24) (lookY Y24) (lookZ Z24) (hasN I24) 6) (mild (lookM X24) (lookY Y24)) 0 38 (subc (bodyOf Go.Proofs.Tryd.f24) [true, true, true, false, true, false, false]) H24_0 S24_0 U24_0 p = B24_0 p := by kernel_rfl
theorem run24 (p) : evTop Go.Proofs.Tryd.prog (callX Go.Proofs.Tryd.prog (lookX X24) (lookM X24) (lookY Y24) (lookZ Z24) (hasN I24) 6) (mild (lookM X24) (lookY Y24)) Go.Proofs.Tryd.f24 H24 O24 p = F24 p := by kernel_rfl
theorem ok24 : O24.OK Go.Proofs.Tryd.prog 24 :=
  ok_of mixed (X := X24) (Y := Y24) (Z := Z24) (I := I24) (d := 6) ⟨ok11, ⟨ok22, ⟨ok36, trivial⟩⟩⟩ trivial trivial trivial (by kernel_rfl) Go.Proofs.Tryd.func24 Go.Proofs.Tryd.call24 (c := bodyOf Go.Proofs.Tryd.f24) (by kernel_rfl) (h := H24) (by kernel_rfl)
    (ls := [⟨subc (bodyOf Go.Proofs.Tryd.f24) [true, true, true, false, true, false, false], H24_0, S24_0, U24_0, L24_0⟩]) (by kernel_rfl) ⟨LoopRec.of rfl round24_0, trivial⟩ run24

/-! pigeonhole/pigeonholelaw18.GlobPicks -/
noncomputable def F7 (p : ((List (List UInt8)) × (List UInt8) × (List UInt8) × Unit) × Unit) : Option (Bool × Unit) := (Option.bind (F20 ((p.1.1, ()), ())) fun r1 => (Option.bind (F8 ((p.1.2.1, ()), ())) fun r2 => (Option.bind (F8 ((p.1.2.2.1, ()), ())) fun r3 => (Option.bind (F21 ((r1.1, ()), ())) fun r4 => (Option.bind (F22 ((r1.1, ()), ())) fun r5 => (Option.bind (F13 ((r4.1, r5.1, ()), ())) fun r6 => (cond (!(!r6.1)) (Option.bind (F23 ((r1.1, r2.1, r3.1, ()), ())) fun r7 => (Option.bind (F24 ((r1.1, r2.1, r3.1, ()), ())) fun r8 => (Option.bind (F13 ((r7.1, r8.1, ()), ())) fun r9 => (cond (!r9.1) (some (false, ())) (Option.bind (F9 ((), ())) fun r10 => (cond r10.1 (Option.bind (F20 ((p.1.1, ()), ())) fun r11 => (Option.bind (F13 ((r1.1, r11.1, ()), ())) fun r12 => (some (r12.1, ())))) (some (false, ())))))))) (some (false, ())))))))))
noncomputable def O7 : Orc := ⟨(.cons (.sl .str) (.cons .s (.cons .s .nil))), [], .b, [], F7⟩
noncomputable def H7 : HT := .leaf
noncomputable def X7 : List (FuncId × Orc) := [(8, O8), (9, O9), (13, O13), (20, O20), (21, O21), (22, O22), (23, O23), (24, O24)]
noncomputable def Y7 : List (FuncId × (List AV → Option AV)) := []
noncomputable def Z7 : List (FuncId × Deed) := []
noncomputable def I7 : List FuncId := []
theorem run7 (p) : evTop Go.Proofs.Tryd.prog (callX Go.Proofs.Tryd.prog (lookX X7) (lookM X7) (lookY Y7) (lookZ Z7) (hasN I7) 6) (mild (lookM X7) (lookY Y7)) Go.Proofs.Tryd.f7 H7 O7 p = F7 p := by kernel_rfl
theorem ok7 : O7.OK Go.Proofs.Tryd.prog 7 :=
  ok_of mixed (X := X7) (Y := Y7) (Z := Z7) (I := I7) (d := 6) ⟨ok8, ⟨ok9, ⟨ok13, ⟨ok20, ⟨ok21, ⟨ok22, ⟨ok23, ⟨ok24, trivial⟩⟩⟩⟩⟩⟩⟩⟩ trivial trivial trivial (by kernel_rfl) Go.Proofs.Tryd.func7 Go.Proofs.Tryd.call7 (c := bodyOf Go.Proofs.Tryd.f7) (by kernel_rfl) (h := H7) (by kernel_rfl)
    (ls := []) (by kernel_rfl) trivial run7

end Go.Gl
