/- Walk: a Book's Apart. -/
import Derived.Test.YtalinfpakmcobaaDoorBk5
namespace Go.Proofs.YtalinfpakmcobaaDoor
open Go.RowKit Go.Lib Go.Proofs.Foot

set_option maxHeartbeats 4000000 in
set_option maxRecDepth 100000 in
theorem apart_any (w0 w : World) (gk gt cap ga gb n : Nat) (A B : List ByteArray) (T0 : Tb w0) (d : Dis w0.heap.size gk gt ga gb) (hA : A.length = n) (hB : B.length = n) (hn : n ≤ 2097152) (h1n : 1 ≤ n) (h : Pz w0 gk gt cap ga gb n (.slice none 0 0) (.slice none 0 0) A B w) :
    Calls Tryd.prog 18 #[.pointer (some ⟨gk, 0, none⟩)] w fun e w' => e = .returned (.bool true) ∧ Below w0.heap.size w0 w' := by
  have HT0 := hid T0
  have HD := hid d
  have H0 := hid h
  have HA := hid hA
  have HB := hid hB
  clear T0 d h hA hB
  go_enter Tryd.func18, Tryd.ntmps18
  go_wp2_with fail
  refine (fillByte_any _ _ _ _ H0.out.bk).mono ?_
  rintro e w1 ⟨rfl, hb⟩
  have H1 := hid (H0.out.go hb)
  clear hb H0
  go_wp2_with fail
  refine (fillInt_any _ _ _ _ H1.out.bk).mono ?_
  rintro e w2 ⟨rfl, hb⟩
  have H2 := hid (H1.out.go hb)
  clear hb H1
  go_wp2_with fail
  refine (fillText_any w0 _ gk gt cap ga gb n A B HT0.out HD.out HA.out HB.out hn H2.out).mono ?_
  rintro e w3 ⟨rfl, hp⟩
  have H3 := hid hp
  clear hp H2
  go_wp2_with fail
  refine (fillField_any _ _ _ _ H3.out.bk).mono ?_
  rintro e w4 ⟨rfl, hb⟩
  have H4 := hid (H3.out.go hb)
  clear hb H3
  go_wp2_with fail
  refine (fillCookie_any _ _ _ _ H4.out.bk).mono ?_
  rintro e w5 ⟨rfl, hb⟩
  have H5 := hid (H4.out.go hb)
  clear hb H4
  go_wp2_with fail
  refine (fillSealed_any _ _ _ _ H5.out.bk).mono ?_
  rintro e w6 ⟨rfl, hb⟩
  have H6 := hid (H5.out.go hb)
  clear hb H5
  go_wp2_with fail
  refine (fillChange_any _ _ _ _ H6.out.bk).mono ?_
  rintro e w7 ⟨rfl, hb⟩
  have H7 := hid (H6.out.go hb)
  clear hb H6
  go_wp2_with fail
  refine (fillMessage_any _ _ _ _ H7.out.bk).mono ?_
  rintro e w8 ⟨rfl, hb⟩
  have H8 := hid (H7.out.go hb)
  clear hb H7
  go_wp2_with fail
  refine (growByte_any _ _ _ _ H8.out.bk).mono ?_
  rintro e w9 ⟨rfl, hb⟩
  have H9 := hid (H8.out.go hb)
  clear hb H8
  go_wp2_with fail
  refine (growInt_any _ _ _ _ H9.out.bk).mono ?_
  rintro e w10 ⟨rfl, hb⟩
  have H10 := hid (H9.out.go hb)
  clear hb H9
  go_wp2_with fail
  refine (growText_any w0 _ gk gt cap ga gb n HT0.out HD.out hn h1n H10.out).mono ?_
  rintro e w11 ⟨rfl, va, vb, hp, hla, hlb⟩
  have H11 := hid (And.intro hp (And.intro hla hlb))
  clear hp hla hlb H10
  go_wp2_with fail
  refine (growField_any _ _ _ _ H11.out.1.bk).mono ?_
  rintro e w12 ⟨rfl, hb⟩
  have H12 := hid (And.intro (H11.out.1.go hb) (And.intro (H11.out.2.1.go hb) (H11.out.2.2.go hb)))
  clear hb H11
  go_wp2_with fail
  refine (growCookie_any _ _ _ _ H12.out.1.bk).mono ?_
  rintro e w13 ⟨rfl, hb⟩
  have H13 := hid (And.intro (H12.out.1.go hb) (And.intro (H12.out.2.1.go hb) (H12.out.2.2.go hb)))
  clear hb H12
  go_wp2_with fail
  refine (growSealed_any _ _ _ _ H13.out.1.bk).mono ?_
  rintro e w14 ⟨rfl, hb⟩
  have H14 := hid (And.intro (H13.out.1.go hb) (And.intro (H13.out.2.1.go hb) (H13.out.2.2.go hb)))
  clear hb H13
  go_wp2_with fail
  refine (growChange_any _ _ _ _ H14.out.1.bk).mono ?_
  rintro e w15 ⟨rfl, hb⟩
  have H15 := hid (And.intro (H14.out.1.go hb) (And.intro (H14.out.2.1.go hb) (H14.out.2.2.go hb)))
  clear hb H14
  go_wp2_with fail
  refine (growMessage_any _ _ _ _ H15.out.1.bk).mono ?_
  rintro e w16 ⟨rfl, hb⟩
  have H16 := hid (And.intro (H15.out.1.go hb) (And.intro (H15.out.2.1.go hb) (H15.out.2.2.go hb)))
  clear hb H15
  go_wp2_with fail
  refine (lookByte_any _ _ _ _ H16.out.1.bk).mono ?_
  rintro e w17 ⟨rfl, hb⟩
  have H17 := hid (And.intro (H16.out.1.go hb) (And.intro (H16.out.2.1.go hb) (H16.out.2.2.go hb)))
  clear hb H16
  go_wp2_with fail
  refine (lookInt_any _ _ _ _ H17.out.1.bk).mono ?_
  rintro e w18 ⟨rfl, hb⟩
  have H18 := hid (And.intro (H17.out.1.go hb) (And.intro (H17.out.2.1.go hb) (H17.out.2.2.go hb)))
  clear hb H17
  go_wp2_with fail
  refine (lookText_any w0 _ gk gt cap ga gb n va vb HT0.out hn H18.out.1 H18.out.2.1 H18.out.2.2).mono ?_
  rintro e w19 ⟨rfl, hb⟩
  have H19 := hid (And.intro (H18.out.1.go hb) (And.intro (H18.out.2.1.go hb) (H18.out.2.2.go hb)))
  clear hb H18
  go_wp2_with fail
  refine (lookField_any _ _ _ _ H19.out.1.bk).mono ?_
  rintro e w20 ⟨rfl, hb⟩
  have H20 := hid (And.intro (H19.out.1.go hb) (And.intro (H19.out.2.1.go hb) (H19.out.2.2.go hb)))
  clear hb H19
  go_wp2_with fail
  refine (lookCookie_any _ _ _ _ H20.out.1.bk).mono ?_
  rintro e w21 ⟨rfl, hb⟩
  have H21 := hid (And.intro (H20.out.1.go hb) (And.intro (H20.out.2.1.go hb) (H20.out.2.2.go hb)))
  clear hb H20
  go_wp2_with fail
  refine (lookSealed_any _ _ _ _ H21.out.1.bk).mono ?_
  rintro e w22 ⟨rfl, hb⟩
  have H22 := hid (And.intro (H21.out.1.go hb) (And.intro (H21.out.2.1.go hb) (H21.out.2.2.go hb)))
  clear hb H21
  go_wp2_with fail
  refine (lookChange_any _ _ _ _ H22.out.1.bk).mono ?_
  rintro e w23 ⟨rfl, hb⟩
  have H23 := hid (And.intro (H22.out.1.go hb) (And.intro (H22.out.2.1.go hb) (H22.out.2.2.go hb)))
  clear hb H22
  go_wp2_with fail
  refine (lookMessage_any _ _ _ _ H23.out.1.bk).mono ?_
  rintro e w24 ⟨rfl, hb⟩
  have H24 := hid (And.intro (H23.out.1.go hb) (And.intro (H23.out.2.1.go hb) (H23.out.2.2.go hb)))
  clear hb H23
  go_wp2
  go_ret
  exact ⟨rfl, H24.out.1.below⟩
end Go.Proofs.YtalinfpakmcobaaDoor
