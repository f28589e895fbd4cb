/- Walk: setcookie.Text. -/
import Derived.Test.YthfndlphhgchnaaGreatDoorSg
import Derived.Test.YthfndlphhgchnaaGreatDoorTxI
import Derived.Deep.RegionHeld3
namespace Go.Proofs.YthfndlphhgchnaaGreatDoor
open Go.RowKit Go.Lib Go.Proofs.Foot

theorem catL (s t : ByteArray) : (s ++ t).data.toList = s.data.toList ++ t.data.toList := by simp [ByteArray.data_append]
theorem catZ (s t : ByteArray) : (s ++ t).size = s.size + t.size := by rw [Lib.size_eq, catL, List.length_append, ← Lib.size_eq, ← Lib.size_eq]
theorem addS {s t r : ByteArray} (hr : r = s ++ t) (hs : (s.size : Int) ≤ 8388608) (ht : (t.size : Int) ≤ 8388608) : ∀ V, (Op.stringOp .add s t).run Tryz.prog V = .ok (.string r) V := fun V => by rw [hr]; exact run_string_add V _ _ hs ht
/-- D is the text of a date, or empty if it has none. -/
def DateTx (x : Int) (D : ByteArray) : Prop := (¬ (0 ≤ x ∧ x ≤ 253402300799) ∧ D = ⟨#[]⟩) ∨ ∃ n : Nat, x = n ∧ IsText D.data.toList n
theorem dateTx_ex (x : Int) : ∃ D : ByteArray, DateTx x D := by
  rcases text_cases x with h | ⟨n, hn, T, hT⟩
  · exact ⟨⟨#[]⟩, .inl ⟨h, rfl⟩⟩
  · exact ⟨T, .inr ⟨n, hn, hT⟩⟩
theorem textA_to {x : Int} {D : ByteArray} (h : DateTx x D) : ∃ o, ∀ w, Good w → Calls Tryz.prog 13 #[.int .i64 x] w fun e w' => e = .returned (.tuple #[.string D, .bool o]) ∧ Below w.heap.size w w' := by
  rcases h with ⟨h, rfl⟩ | ⟨n, rfl, hT⟩
  · refine ⟨false, fun w _ => (textA_no x h w).mono ?_⟩
    rintro e w' ⟨he, rfl⟩
    exact ⟨he, Below.refl _ _⟩
  · exact ⟨true, fun w G => textA_is n D hT w G⟩
theorem weekName_len : ∀ w < 7, (weekName w).length = 3 := by decide +kernel
theorem monName_len : ∀ m < 12, (monName m).length = 3 := by decide +kernel
theorem isText_len {l : List UInt8} {n : Nat} (h : IsText l n) : l.length = 29 := by
  obtain ⟨_, Y, M, K, W, D, rfl⟩ := h
  unfold textBy textOf
  have h1 := weekName_len W D.w7
  have h2 := monName_len (M - 1) (by have := D.m1; have := D.m2; omega)
  simp [h1, h2, dd, hms]
theorem dateTx_len {x : Int} {D : ByteArray} (h : DateTx x D) : D.size ≤ 29 := by
  rcases h with ⟨_, rfl⟩ | ⟨n, _, hT⟩
  · exact Nat.zero_le _
  · rw [Lib.size_eq, isText_len hT]; exact Nat.le_refl _
theorem decDigits_len : ∀ (k n : Nat), 1 ≤ k → n < 10 ^ k → (Lib.decDigits n).length ≤ k := by
  intro k
  induction k with
  | zero => intro n h _; omega
  | succ k ih =>
    intro n _ hn
    by_cases h : n < 10
    · rw [Lib.decDigits, dif_pos h]; simp
    · have hk : 1 ≤ k := by
        rcases Nat.eq_zero_or_pos k with rfl | h0
        · simp at hn; omega
        · exact h0
      have hd : n / 10 < 10 ^ k := by
        rw [Nat.pow_succ] at hn
        omega
      rw [Lib.decDigits, dif_neg h, List.length_append]
      have := ih (n / 10) hk hd
      simp; omega
theorem itoa_len {x : Int} (h1 : -9223372036854775808 ≤ x) (h2 : x ≤ 9223372036854775807) : (Lib.itoa x).length ≤ 20 := by
  have e : (10 : Nat) ^ 19 = 10000000000000000000 := rfl
  unfold Lib.itoa
  split
  · have := decDigits_len 19 x.natAbs (by omega) (by rw [e]; omega)
    rw [List.length_cons]; omega
  · have := decDigits_len 19 x.toNat (by omega) (by rw [e]; omega)
    omega
/-- A part's text, if it stands. -/
def pt (b : Bool) (x : ByteArray) : List ByteArray := if b = true then [x] else []
theorem pt_len (b : Bool) (x : ByteArray) : (pt b x).length ≤ 1 := by cases b <;> simp [pt]
theorem add_any (w0 : World) (bt gl : Nat) (t : CkT) (ps : List ByteArray) (hps : ps.length ≤ 100) (b : Bool) (x : ByteArray) (w : World) (h : TL w0 bt gl t ps w) :
    Calls Tryz.prog 32 #[.bool b, .string x, .pointer (some ⟨gl, 0, none⟩)] w (AddR w0 bt gl t (ps ++ pt b x)) := by
  cases b with
  | true => exact add_yes w0 bt gl t ps hps x w h
  | false => show Calls _ _ _ _ (AddR w0 bt gl t (ps ++ [])); rw [List.append_nil]; exact add_no w0 bt gl t ps x w h
theorem TL.start (w : World) (t : CkT) (P0 : ByteArray) (C : Array Value) (hC : C = rowC t) : TL w w.heap.size (w.heap.size + 2) t [P0] (((w.alloc (.cells C 24)).alloc (.cells #[.string P0] 9)).alloc (.cells #[.slice (some ⟨w.heap.size + 1, 0, none⟩) 1 1] 44)) := by
  subst hC
  have b1 : Below w.heap.size w (w.alloc (.cells (rowC t) 24)) := (Below.refl _ _).alloc (Nat.le_refl _) _
  refine ⟨?_, ⟨some ⟨w.heap.size + 1, 0, none⟩, 1, ?_, ⟨rfl, .inr ⟨w.heap.size + 1, 1, #[.string P0], rfl, Nat.le_refl _, ?_, Nat.le_refl _, by decide, rfl, rfl⟩⟩, ?_⟩, (b1.alloc (by simp) _).alloc (by simp; omega) _, Nat.le_refl _, by omega⟩
  · refine (Below.heap_alloc _ _ _ (by simp; omega)).trans ((Below.heap_alloc _ _ _ (by simp)).trans ?_)
    exact heap_alloc_new _ _
  · have := heap_alloc_new ((w.alloc (.cells (rowC t) 24)).alloc (.cells #[.string P0] 9)) (.cells #[.slice (some ⟨w.heap.size + 1, 0, none⟩) 1 1] 44)
    simpa using this
  · refine (Below.heap_alloc _ _ _ (by simp)).trans ?_
    have := heap_alloc_new (w.alloc (.cells (rowC t) 24)) (.cells #[.string P0] 9)
    simpa using this
  · show some (w.heap.size + 1) ≠ some (w.heap.size + 2)
    intro e; injection e with e; omega
def sT (k : Nat) : ByteArray := if k = 1 then ⟨#[83, 97, 109, 101, 83, 105, 116, 101, 61, 83, 116, 114, 105, 99, 116]⟩ else if k = 2 then ⟨#[83, 97, 109, 101, 83, 105, 116, 101, 61, 76, 97, 120]⟩ else ⟨#[83, 97, 109, 101, 83, 105, 116, 101, 61, 78, 111, 110, 101]⟩
/-- The site's part, when k sites have been looked at. -/
def siteP (s k : Nat) : List ByteArray := if 1 ≤ s ∧ s ≤ k ∧ s ≤ 3 then [sT s] else []
theorem siteP_step (s k : Nat) (hk : k < 3) : siteP s (k + 1) = siteP s k ++ pt (decide (s = k + 1)) (sT (k + 1)) := by
  unfold siteP pt
  by_cases h : s = k + 1
  · subst h
    rw [if_pos (by omega), if_neg (by omega), decide_eq_true rfl]; rfl
  · rw [decide_eq_false h]
    by_cases h2 : 1 ≤ s ∧ s ≤ k ∧ s ≤ 3
    · rw [if_pos (by omega), if_pos h2]; rfl
    · rw [if_neg (by omega), if_neg h2]; rfl
theorem siteP_len (s k : Nat) : (siteP s k).length ≤ 1 := by unfold siteP; split <;> simp
theorem join_semi (p : List UInt8) (ps : List (List UInt8)) : Lib.join (p :: ps) [59, 32] = p ++ ps.flatMap fun q => 59 :: 32 :: q := by
  induction ps generalizing p with
  | nil => simp [Lib.join]
  | cons q ps ih =>
    have e : Lib.join (p :: q :: ps) [59, 32] = p ++ [59, 32] ++ Lib.join (q :: ps) [59, 32] := by simp [Lib.join]
    rw [e, ih, List.flatMap_cons]
    simp
/-- The parts' texts, as the program gathers them. -/
def psT (t : CkT) (P0 PE PA PD PP : ByteArray) : List ByteArray :=
  [P0] ++ pt t.hasExp PE ++ pt t.hasAge PA ++ pt (decide (t.domain ≠ [])) PD ++ pt (decide (t.path ≠ [])) PP ++ pt t.secure ⟨#[83, 101, 99, 117, 114, 101]⟩ ++ pt t.hidden ⟨#[72, 116, 116, 112, 79, 110, 108, 121]⟩ ++ siteP t.site 3
theorem pt_map (b : Bool) (x : ByteArray) : (pt b x).map (·.data.toList) = if b = true then [x.data.toList] else [] := by cases b <;> rfl
theorem psT_text {t : CkT} {N1 P0 PE PA PD PP D A : ByteArray} (hN1 : N1 = tx t.name ++ ⟨#[61]⟩) (hP0 : P0 = N1 ++ tx t.value) (hPE : PE = ⟨#[69, 120, 112, 105, 114, 101, 115, 61]⟩ ++ D) (hPA : PA = ⟨#[77, 97, 120, 45, 65, 103, 101, 61]⟩ ++ A)
    (hPD : PD = ⟨#[68, 111, 109, 97, 105, 110, 61]⟩ ++ tx t.domain) (hPP : PP = ⟨#[80, 97, 116, 104, 61]⟩ ++ tx t.path) : Lib.join ((psT t P0 PE PA PD PP).map (·.data.toList)) [59, 32] = textC t D.data.toList A.data.toList := by
  have e0 : P0.data.toList = headC t := by rw [hP0, catL, hN1, catL, tx_list, tx_list]; unfold headC; simp
  have eE : PE.data.toList = [69, 120, 112, 105, 114, 101, 115] ++ 61 :: D.data.toList := by rw [hPE, catL]; rfl
  have eA : PA.data.toList = [77, 97, 120, 45, 65, 103, 101] ++ 61 :: A.data.toList := by rw [hPA, catL]; rfl
  have eD : PD.data.toList = [68, 111, 109, 97, 105, 110] ++ 61 :: t.domain := by rw [hPD, catL, tx_list]; rfl
  have eP : PP.data.toList = [80, 97, 116, 104] ++ 61 :: t.path := by rw [hPP, catL, tx_list]; rfl
  have es : (siteP t.site 3).map (·.data.toList) = if t.site = 1 then [[83, 97, 109, 101, 83, 105, 116, 101] ++ 61 :: [83, 116, 114, 105, 99, 116]] else if t.site = 2 then [[83, 97, 109, 101, 83, 105, 116, 101] ++ 61 :: [76, 97, 120]] else if t.site = 3 then [[83, 97, 109, 101, 83, 105, 116, 101] ++ 61 :: [78, 111, 110, 101]] else [] := by
    unfold siteP
    by_cases h1 : t.site = 1
    · rw [h1]; rfl
    · by_cases h2 : t.site = 2
      · rw [h2]; rfl
      · by_cases h3 : t.site = 3
        · rw [h3]; rfl
        · rw [if_neg (by omega), if_neg h1, if_neg h2, if_neg h3]; rfl
  have e : (psT t P0 PE PA PD PP).map (·.data.toList) = headC t :: partsC t D.data.toList A.data.toList := by
    unfold psT partsC
    simp only [List.map_append, pt_map, es, e0, eE, eA, eD, eP, List.map_cons, decide_eq_true_eq, List.append_assoc, List.cons_append, List.nil_append]
  rw [e, join_semi]
  rfl
theorem lens_sum (m : Nat) : ∀ l : List (List UInt8), (∀ t ∈ l, t.length ≤ m) → (Lib.join l [59, 32]).length ≤ (m + 2) * l.length
  | [], _ => by simp [Lib.join]
  | p :: ps, h => by
    rw [join_semi, List.length_append]
    have hp := h p (by simp)
    have : ∀ ps : List (List UInt8), (∀ t ∈ ps, t.length ≤ m) → (ps.flatMap fun q => (59 : UInt8) :: 32 :: q).length ≤ (m + 2) * ps.length := by
      intro ps
      induction ps with
      | nil => intro _; simp
      | cons q ps ih =>
        intro h
        have h1 := h q (by simp)
        have h2 := ih (fun t ht => h t (List.mem_cons_of_mem _ ht))
        rw [List.flatMap_cons, List.length_append, List.length_cons, List.length_cons, List.length_cons, Nat.mul_succ]
        omega
    have h3 := this ps (fun t ht => h t (List.mem_cons_of_mem _ ht))
    rw [List.length_cons, Nat.mul_succ]
    omega
theorem isEmpty_tx {l : List UInt8} {b : Bool} (h : b = decide (l ≠ [])) : (tx l).toList.isEmpty = !b := by
  rw [Lib.toList_data, tx_list, h]
  cases l <;> rfl
theorem ret_valH {a b : Value} (h : a = b) : Ending.returned a = .returned b := by rw [h]
def TextR (t : CkT) (D A : ByteArray) (w : World) (e : Ending) (w' : World) : Prop :=
  e = .returned (if parseC (textC t D.data.toList A.data.toList) = (t, 0) then .tuple #[.string (tx (textC t D.data.toList A.data.toList)), .int .i64 0] else .tuple #[.string ⟨#[]⟩, .int .i64 1]) ∧ Below w.heap.size w w'
set_option maxHeartbeats 4000000 in
set_option maxRecDepth 100000 in
theorem textA_any (t : CkT) (ht : WfC t) (hz : t.name.length + t.value.length + t.domain.length + t.path.length ≤ 4194304) (D A : ByteArray) (hD : DateTx t.exp D) (hA : A.data.toList = Lib.itoa t.age) (w : World) (G : Good w) :
    Calls Tryz.prog 18 #[.agg (rowC t)] w (TextR t D A w) := by
  obtain ⟨C, hC⟩ : ∃ C, C = rowC t := ⟨_, rfl⟩
  rw [← hC]
  obtain ⟨o, hTx⟩ := textA_to hD
  have hDl := dateTx_len hD
  have hA1 := (wf_bounds ht.age).1
  have hA2 := (wf_bounds ht.age).2
  have hmin : IntKind.i64.min = -9223372036854775808 := rfl
  have hmax : IntKind.i64.max = 9223372036854775807 := rfl
  rw [hmin] at hA1
  rw [hmax] at hA2
  have hAl : A.size ≤ 20 := by rw [Lib.size_eq, hA]; exact itoa_len hA1 hA2
  have HI := hid (fun w G => itoaA t.age hA1 hA2 w G A hA.symm)
  have HTx := hid hTx
  have zn : (tx t.name).size ≤ 4194304 := by rw [tx_size]; omega
  have zv : (tx t.value).size ≤ 4194304 := by rw [tx_size]; omega
  have zd : (tx t.domain).size ≤ 4194304 := by rw [tx_size]; omega
  have zp : (tx t.path).size ≤ 4194304 := by rw [tx_size]; omega
  obtain ⟨N1, hN1⟩ : ∃ X, X = tx t.name ++ ⟨#[61]⟩ := ⟨_, rfl⟩
  have zN1 : N1.size ≤ 4194305 := by rw [hN1, catZ]; show _ + 1 ≤ _; omega
  obtain ⟨P0, hP0⟩ : ∃ X, X = N1 ++ tx t.value := ⟨_, rfl⟩
  obtain ⟨PE, hPE⟩ : ∃ X, X = ⟨#[69, 120, 112, 105, 114, 101, 115, 61]⟩ ++ D := ⟨_, rfl⟩
  obtain ⟨PA, hPA⟩ : ∃ X, X = ⟨#[77, 97, 120, 45, 65, 103, 101, 61]⟩ ++ A := ⟨_, rfl⟩
  obtain ⟨PD, hPD⟩ : ∃ X, X = ⟨#[68, 111, 109, 97, 105, 110, 61]⟩ ++ tx t.domain := ⟨_, rfl⟩
  obtain ⟨PP, hPP⟩ : ∃ X, X = ⟨#[80, 97, 116, 104, 61]⟩ ++ tx t.path := ⟨_, rfl⟩
  have a1 := addS hN1 (by omega) (by show (1 : Int) ≤ _; decide)
  have a2 := addS hP0 (by omega) (by omega)
  have aE := addS hPE (by show (8 : Int) ≤ _; decide) (by omega)
  have aA := addS hPA (by show (8 : Int) ≤ _; decide) (by omega)
  have aD := addS hPD (by show (7 : Int) ≤ _; decide) (by omega)
  have aP := addS hPP (by show (5 : Int) ≤ _; decide) (by omega)
  have HP0 := hid hP0
  have HN1 := hid hN1
  have HPE := hid hPE
  have HPA := hid hPA
  have HPD := hid hPD
  have HPP := hid hPP
  have HG := hid G
  have HC := hid hC
  have W0 := hid (TL.start w t P0 C hC)
  have c0 : C[0]? = some (.string (tx t.name)) := by rw [hC]; rfl
  have c1 : C[1]? = some (.string (tx t.value)) := by rw [hC]; rfl
  have Hht := hid ht
  have Hz := hid hz
  clear hC hTx hD hA hP0 hN1 hPE hPA hPD hPP G ht hz
  have k0 : (w.alloc (.cells C 24)).cell? ⟨w.heap.size, 0, none⟩ = some (.string (tx t.name)) := by rw [World.cell?_alloc_at _ _ _ _ rfl]; exact c0
  have k1 : (w.alloc (.cells C 24)).cell? ⟨w.heap.size, 1, none⟩ = some (.string (tx t.value)) := by rw [World.cell?_alloc_at _ _ _ _ rfl]; exact c1
  clear c0 c1
  go_enter Tryz.func18, Tryz.ntmps18
  go_upto_region 3 with fail
  generalize World.alloc (World.alloc (World.alloc w _) _) _ = w1 at *
  clear k0 k1 a1 a2
  obtain ⟨gl, hgl⟩ : ∃ gl, gl = w.heap.size + 2 := ⟨_, rfl⟩
  rw [← hgl] at W0 ⊢
  clear hgl
  obtain ⟨bt, hbt⟩ : ∃ bt, bt = w.heap.size := ⟨_, rfl⟩
  rw [← hbt] at W0 ⊢
  clear hbt
  have c4 : w1.cell? ⟨bt, 4, none⟩ = some (.int .i64 t.exp) := W0.out.row.cell rfl
  go_wp2_with fail
  refine (HTx.out _ (HG.out.below W0.out.below)).mono ?_
  rintro e w2 ⟨rfl, hb2⟩
  have W2 := hid (W0.out.touch hb2)
  clear hb2 c4
  have c5 : w2.cell? ⟨bt, 5, none⟩ = some (.bool t.hasExp) := W2.out.row.cell rfl
  go_wp2_with fail
  refine (add_any w bt gl t [P0] (by simp) t.hasExp PE w2 W2.out).mono ?_
  rintro e w3 ⟨rfl, h3⟩
  obtain ⟨ps1, hps1⟩ : ∃ ps1, ps1 = [P0] ++ pt t.hasExp PE := ⟨_, rfl⟩
  rw [← hps1] at h3
  have n1 : ps1.length ≤ 2 := by rw [hps1, List.length_append]; have := pt_len t.hasExp PE; simp; omega
  have HS1 := hid hps1
  have W3 := hid h3
  clear h3 hps1 c5 aE
  go_upto_region 5 with fail
  obtain ⟨ps2, hps2⟩ : ∃ ps2, ps2 = ps1 ++ pt t.hasAge PA := ⟨_, rfl⟩
  have HS2 := hid hps2
  go_cut [] (fun wx => TL w bt gl t ps2 wx)
  case first =>
    have c7 : w3.cell? ⟨bt, 7, none⟩ = some (.bool t.hasAge) := W3.out.row.cell rfl
    have c6 : w3.cell? ⟨bt, 6, none⟩ = some (.int .i64 t.age) := W3.out.row.cell rfl
    clear hps2
    go_region_with (first
      | (go_at_call 33; refine (HI.out _ (HG.out.below W3.out.below.drew)).mono ?_; rintro e w4 ⟨rfl, hb4⟩; have W4 := W3.out.drew.touch hb4; have c7' : w4.cell? ⟨bt, 7, none⟩ = some (.bool t.hasAge) := W4.row.cell rfl; have c6' : w4.cell? ⟨bt, 6, none⟩ = some (.int .i64 t.age) := W4.row.cell rfl; clear hb4)
      | (go_at_call 32; refine (add_any w bt gl t ps1 (by omega) t.hasAge PA _ (by assumption)).mono ?_; rintro e w5 ⟨rfl, h5⟩))
    all_goals
      rw [← HS2.out] at h5
      go_wp2
      go_meet
      exact h5
  case rest =>
    have W5 := hid hcut
    have n2 : ps2.length ≤ 3 := by rw [hps2, List.length_append]; have := pt_len t.hasAge PA; omega
    clear hcut hps2 W3 aA
    obtain ⟨bd, hbd⟩ : ∃ bd, bd = decide (t.domain ≠ []) := ⟨_, rfl⟩
    have ed := isEmpty_tx hbd
    have c2 : wc.cell? ⟨bt, 2, none⟩ = some (.string (tx t.domain)) := W5.out.row.cell rfl
    have Hbd := hid hbd
    clear hbd
    go_wp2_with fail
    refine (add_any w bt gl t ps2 (by omega) bd PD wc W5.out).mono ?_
    rintro e w6 ⟨rfl, h6⟩
    obtain ⟨ps3, hps3⟩ : ∃ ps3, ps3 = ps2 ++ pt bd PD := ⟨_, rfl⟩
    rw [← hps3] at h6
    have n3 : ps3.length ≤ 4 := by rw [hps3, List.length_append]; have := pt_len bd PD; omega
    have HS3 := hid hps3
    have W6 := hid h6
    clear h6 hps3 c2 ed aD W5
    obtain ⟨bp, hbp⟩ : ∃ bp, bp = decide (t.path ≠ []) := ⟨_, rfl⟩
    have ep := isEmpty_tx hbp
    have c3 : w6.cell? ⟨bt, 3, none⟩ = some (.string (tx t.path)) := W6.out.row.cell rfl
    have Hbp := hid hbp
    clear hbp
    go_wp2_with fail
    refine (add_any w bt gl t ps3 (by omega) bp PP w6 W6.out).mono ?_
    rintro e w7 ⟨rfl, h7⟩
    obtain ⟨ps4, hps4⟩ : ∃ ps4, ps4 = ps3 ++ pt bp PP := ⟨_, rfl⟩
    rw [← hps4] at h7
    have n4 : ps4.length ≤ 5 := by rw [hps4, List.length_append]; have := pt_len bp PP; omega
    have HS4 := hid hps4
    have W7 := hid h7
    clear h7 hps4 c3 ep aP W6
    have c8 : w7.cell? ⟨bt, 8, none⟩ = some (.bool t.secure) := W7.out.row.cell rfl
    go_wp2_with fail
    refine (add_any w bt gl t ps4 (by omega) t.secure _ w7 W7.out).mono ?_
    rintro e w8 ⟨rfl, h8⟩
    obtain ⟨ps5, hps5⟩ : ∃ ps5, ps5 = ps4 ++ pt t.secure ⟨#[83, 101, 99, 117, 114, 101]⟩ := ⟨_, rfl⟩
    rw [← hps5] at h8
    have n5 : ps5.length ≤ 6 := by rw [hps5, List.length_append]; have := pt_len t.secure ⟨#[83, 101, 99, 117, 114, 101]⟩; omega
    have HS5 := hid hps5
    have W8 := hid h8
    clear h8 hps5 c8 W7
    have c9 : w8.cell? ⟨bt, 9, none⟩ = some (.bool t.hidden) := W8.out.row.cell rfl
    go_wp2_with fail
    refine (add_any w bt gl t ps5 (by omega) t.hidden _ w8 W8.out).mono ?_
    rintro e w9 ⟨rfl, h9⟩
    obtain ⟨ps6, hps6⟩ : ∃ ps6, ps6 = ps5 ++ pt t.hidden ⟨#[72, 116, 116, 112, 79, 110, 108, 121]⟩ := ⟨_, rfl⟩
    rw [← hps6] at h9
    have n6 : ps6.length ≤ 7 := by rw [hps6, List.length_append]; have := pt_len t.hidden ⟨#[72, 116, 116, 112, 79, 110, 108, 121]⟩; omega
    have HS6 := hid hps6
    have W9 := hid h9
    clear h9 hps6 c9 W8
    go_wp2
    go_loopw [66] (fun iv wr => ∃ k : Nat, k ≤ 3 ∧ iv = .int .i64 k ∧ Hid (TL w bt gl t (ps6 ++ siteP t.site k) wr)) (fun iv _ => 3 - (RowKit.intOf iv).toNat)
    case atStart => exact ⟨0, by omega, rfl, hid (by have h := W9.out; have e : siteP t.site 0 = [] := if_neg (by omega); rw [e, List.append_nil]; exact h)⟩
    case round =>
      obtain ⟨k, hk, rfl, hT⟩ := hrel
      have hk4 : k = 0 ∨ k = 1 ∨ k = 2 ∨ k = 3 := by omega
      have c10 : wr.cell? ⟨bt, 10, none⟩ = some (.int .u8 (t.site : Nat)) := hT.out.row.cell rfl
      have hst := Hht.out.site
      rcases hk4 with rfl | rfl | rfl | rfl
      · have i0 : ∀ V, (Instr.index 67 (.agg #[.string ⟨#[83, 116, 114, 105, 99, 116]⟩, .string ⟨#[76, 97, 120]⟩, .string ⟨#[78, 111, 110, 101]⟩]) (.int .i64 0)).run Tryz.prog V = .ok (.string ⟨#[83, 116, 114, 105, 99, 116]⟩) V := fun _ => by kernel_rfl
        obtain ⟨q, hq⟩ : ∃ q : Bool, q = decide (t.site = 1) := ⟨_, rfl⟩
        have e1 : ((t.site : Int) == 1) = q := by
          rw [hq]
          by_cases h : t.site = 1
          · rw [h]; rfl
          · rw [decide_eq_false h, beq_eq_false_iff_ne]; omega
        have hst2 := siteP_step t.site 0 (by omega)
        rw [← hq] at hst2
        have Hst2 := hid hst2
        have nn : (ps6 ++ siteP t.site 0).length ≤ 100 := by rw [List.length_append]; have := siteP_len t.site 0; omega
        clear hq hst2 hst
        go_wp2_with fail
        refine (add_any w bt gl t (ps6 ++ siteP t.site 0) nn q (sT 1) wr hT.out).mono ?_
        rintro e wd ⟨rfl, hd⟩
        have Wd : Hid (TL w bt gl t (ps6 ++ siteP t.site (0 + 1)) wd) := hid (by rw [Hst2.out, ← List.append_assoc]; exact hd)
        clear hd c10 i0 e1
        go_wp2
        go_roundw
        case rel => exact ⟨1, by omega, rfl, Wd⟩
        case measure => simp [RowKit.intOf]
      · have i0 : ∀ V, (Instr.index 67 (.agg #[.string ⟨#[83, 116, 114, 105, 99, 116]⟩, .string ⟨#[76, 97, 120]⟩, .string ⟨#[78, 111, 110, 101]⟩]) (.int .i64 1)).run Tryz.prog V = .ok (.string ⟨#[76, 97, 120]⟩) V := fun _ => by kernel_rfl
        obtain ⟨q, hq⟩ : ∃ q : Bool, q = decide (t.site = 2) := ⟨_, rfl⟩
        have e1 : ((t.site : Int) == 2) = q := by
          rw [hq]
          by_cases h : t.site = 2
          · rw [h]; rfl
          · rw [decide_eq_false h, beq_eq_false_iff_ne]; omega
        have hst2 := siteP_step t.site 1 (by omega)
        rw [← hq] at hst2
        have Hst2 := hid hst2
        have nn : (ps6 ++ siteP t.site 1).length ≤ 100 := by rw [List.length_append]; have := siteP_len t.site 1; omega
        clear hq hst2 hst
        go_wp2_with fail
        refine (add_any w bt gl t (ps6 ++ siteP t.site 1) nn q (sT 2) wr hT.out).mono ?_
        rintro e wd ⟨rfl, hd⟩
        have Wd : Hid (TL w bt gl t (ps6 ++ siteP t.site (1 + 1)) wd) := hid (by rw [Hst2.out, ← List.append_assoc]; exact hd)
        clear hd c10 i0 e1
        go_wp2
        go_roundw
        case rel => exact ⟨2, by omega, rfl, Wd⟩
        case measure => simp [RowKit.intOf]
      · have i0 : ∀ V, (Instr.index 67 (.agg #[.string ⟨#[83, 116, 114, 105, 99, 116]⟩, .string ⟨#[76, 97, 120]⟩, .string ⟨#[78, 111, 110, 101]⟩]) (.int .i64 2)).run Tryz.prog V = .ok (.string ⟨#[78, 111, 110, 101]⟩) V := fun _ => by kernel_rfl
        obtain ⟨q, hq⟩ : ∃ q : Bool, q = decide (t.site = 3) := ⟨_, rfl⟩
        have e1 : ((t.site : Int) == 3) = q := by
          rw [hq]
          by_cases h : t.site = 3
          · rw [h]; rfl
          · rw [decide_eq_false h, beq_eq_false_iff_ne]; omega
        have hst2 := siteP_step t.site 2 (by omega)
        rw [← hq] at hst2
        have Hst2 := hid hst2
        have nn : (ps6 ++ siteP t.site 2).length ≤ 100 := by rw [List.length_append]; have := siteP_len t.site 2; omega
        clear hq hst2 hst
        go_wp2_with fail
        refine (add_any w bt gl t (ps6 ++ siteP t.site 2) nn q (sT 3) wr hT.out).mono ?_
        rintro e wd ⟨rfl, hd⟩
        have Wd : Hid (TL w bt gl t (ps6 ++ siteP t.site (2 + 1)) wd) := hid (by rw [Hst2.out, ← List.append_assoc]; exact hd)
        clear hd c10 i0 e1
        go_wp2
        go_roundw
        case rel => exact ⟨3, by omega, rfl, Wd⟩
        case measure => simp [RowKit.intOf]
      · clear c10 hst
        obtain ⟨psz, hpsz⟩ : ∃ psz, psz = ps6 ++ siteP t.site 3 := ⟨_, rfl⟩
        have hall : psz = psT t P0 PE PA PD PP := by
          rw [hpsz, HS6.out, HS5.out, HS4.out, HS3.out, HS2.out, HS1.out, Hbd.out, Hbp.out]
          unfold psT
          simp
        have hjoin := psT_text (D := D) (A := A) HN1.out HP0.out HPE.out HPA.out HPD.out HPP.out
        rw [← hall] at hjoin
        have hT' := hT.out
        rw [← hpsz] at hT'
        obtain ⟨ao, cap, g1, g2, g3⟩ := hT'.cell
        have hpos : 0 < psz.length := by rw [hall]; unfold psT; simp
        obtain ⟨g, cap2, hv, hg1, hg2, hg3, hTxt⟩ := row_texts g2 hpos
        injection hv with hv1 hv2 hv3
        subst hv1 hv3
        have hl8 : psz.length ≤ 8 := by rw [hpsz, List.length_append]; have := siteP_len t.site 3; omega
        have hels : ∀ x ∈ psz.map (·.data.toList), x.length ≤ 8388617 := by
          intro x hx
          rw [hall] at hx
          unfold psT at hx
          have z0 : P0.data.toList.length ≤ 8388610 := by rw [← Lib.size_eq, HP0.out, catZ]; omega
          have zE : PE.data.toList.length ≤ 100 := by rw [← Lib.size_eq, HPE.out, catZ]; show 8 + _ ≤ _; omega
          have zA : PA.data.toList.length ≤ 100 := by rw [← Lib.size_eq, HPA.out, catZ]; show 8 + _ ≤ _; omega
          have zD : PD.data.toList.length ≤ 4194311 := by rw [← Lib.size_eq, HPD.out, catZ]; show 7 + _ ≤ _; omega
          have zP : PP.data.toList.length ≤ 4194311 := by rw [← Lib.size_eq, HPP.out, catZ]; show 5 + _ ≤ _; omega
          have hpt : ∀ (b : Bool) (y : ByteArray) (m : Nat), y.data.toList.length ≤ m → ∀ x ∈ (pt b y).map (·.data.toList), x.length ≤ m := by
            intro b y m hy x hx
            rw [pt_map] at hx
            split at hx
            · rw [List.mem_singleton.1 hx]; exact hy
            · cases hx
          simp only [List.map_append, List.mem_append] at hx
          rcases hx with ((((((hx | hx) | hx) | hx) | hx) | hx) | hx) | hx
          · rw [List.mem_singleton.1 hx]; show P0.data.toList.length ≤ _; omega
          · have := hpt _ _ _ zE x hx; omega
          · have := hpt _ _ _ zA x hx; omega
          · have := hpt _ _ _ zD x hx; omega
          · have := hpt _ _ _ zP x hx; omega
          · have := hpt _ _ 6 (by decide) x hx; omega
          · have := hpt _ _ 8 (by decide) x hx; omega
          · unfold siteP at hx
            split at hx
            · rw [List.mem_singleton.1 hx]
              have : (sT t.site).data.toList.length ≤ 15 := by
                unfold sT
                split
                · decide
                · split <;> decide
              show (sT t.site).data.toList.length ≤ _; omega
            · cases hx
        have hlen := lens_sum 8388617 _ hels
        rw [List.length_map] at hlen
        have hlen2 : (Lib.join (psz.map (·.data.toList)) [59, 32]).length ≤ 67108952 := by
          have : 8388619 * psz.length ≤ 8388619 * 8 := Nat.mul_le_mul_left _ hl8
          omega
        have hJ := Tryz.strings_Join g 0 cap psz ⟨#[59, 32]⟩ wr (fun j x hj => hTxt j x hj) hg2 (by omega) hg3 (by show (Lib.join _ [59, 32]).length ≤ _; omega)
        obtain ⟨S, hS⟩ : ∃ S : ByteArray, S = tx (textC t D.data.toList A.data.toList) := ⟨_, rfl⟩
        have hSS : (⟨(Lib.join (psz.map (·.data.toList)) (⟨#[59, 32]⟩ : ByteArray).data.toList).toArray⟩ : ByteArray) = S := by
          rw [hS]; show tx (Lib.join _ [59, 32]) = _; rw [hjoin]
        rw [hSS] at hJ
        have HJ := hid hJ
        have hSl : S.data.toList = textC t D.data.toList A.data.toList := by rw [hS, tx_list]
        obtain ⟨u, n, hp⟩ : ∃ u n, parseC S.data.toList = (u, n) := ⟨_, _, rfl⟩
        have HP := hid (fun w G => parseA_is S w G u n hp)
        have hwu := wf_parse hp
        rw [hSl] at hp
        have Hp := hid hp
        have HS := hid hS
        have WT := hid hT'
        have kl : wr.cell? ⟨gl, 0, none⟩ = some (.slice (some ⟨g, 0, none⟩) psz.length cap) := by rw [cell_of_row _ _ _ _ _ _ g1]; rfl
        clear hpsz hall hjoin hT' g1 g2 g3 hpos hg1 hg2 hg3 hTxt hels hlen hlen2 hJ hS hSS hSl hp hl8
        go_wp2_with fail
        refine HJ.out.mono ?_
        rintro e wj ⟨rfl, hbj⟩
        have Wj := hid (WT.out.touch hbj)
        clear hbj kl
        go_wp2_with fail
        refine (HP.out _ (HG.out.below Wj.out.below)).mono ?_
        rintro e wk ⟨rfl, hbk⟩
        have Wk := hid (Wj.out.touch hbk)
        clear hbk
        go_upto_region 17 with (refine wpList_store_row rfl 24 _ _ rfl wk.heap.size (rowC u) rfl rfl _ _ (heap_alloc_new wk _) (infoTd u) rfl (rowC_one u) ?_)
        have hu1 := laid_rowT wk #[.string ⟨#[]⟩, .string ⟨#[]⟩, .string ⟨#[]⟩, .string ⟨#[]⟩, .int .i64 0, .bool false, .int .i64 0, .bool false, .bool false, .bool false, .int .u8 0] (rowC u) 24
        have Wm := hid (Wk.out.touch (laid_belowT wk #[.string ⟨#[]⟩, .string ⟨#[]⟩, .string ⟨#[]⟩, .string ⟨#[]⟩, .int .i64 0, .bool false, .int .i64 0, .bool false, .bool false, .bool false, .int .u8 0] (rowC u) 24))
        have Hu1 := hid hu1
        clear hu1
        generalize World.setRow _ wk.heap.size (rowC u) = wm at *
        have r1 := Hu1.out
        have r2 := Wm.out.row
        by_cases hn : n = 0
        · subst hn
          by_cases hut : u = t
          · have Hq := hid (ck_neq u t hwu Hht.out false (decide_eq_true hut))
            have q := Hq.out
            have Hut := hid hut
            clear hut
            go_wp2_with (first
              | (refine load_ckG (by rfl) _ rfl wk.heap.size rfl u r1 ?_)
              | (refine load_ckG (by rfl) _ rfl bt rfl t r2 ?_))
            go_ret2
            exact ⟨ret_valH (by rw [if_pos (by rw [Hp.out, Hut.out]), ← HS.out]; rfl), Wm.out.below⟩
          · have Hq := hid (ck_neq u t hwu Hht.out true (decide_eq_false hut))
            have q := Hq.out
            have Hut := hid hut
            clear hut
            go_wp2_with (first
              | (refine load_ckG (by rfl) _ rfl wk.heap.size rfl u r1 ?_)
              | (refine load_ckG (by rfl) _ rfl bt rfl t r2 ?_))
            go_ret2
            exact ⟨ret_valH (by rw [if_neg (by rw [Hp.out]; intro e; exact Hut.out (by injection e))]; rfl), Wm.out.below⟩
        · have hn0 : ((n : Int) == 0) = false := by rw [beq_eq_false_iff_ne]; omega
          have hn1 : ((n : Int) != 0) = true := by rw [bne, hn0]; rfl
          have Hn := hid hn
          clear hn r1 r2
          go_wp2
          go_ret2
          exact ⟨ret_valH (by rw [if_neg (by rw [Hp.out]; intro e; exact Hn.out (by injection e))]; rfl), Wm.out.below⟩
end Go.Proofs.YthfndlphhgchnaaGreatDoor
