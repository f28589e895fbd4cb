/- Walk: percent's Decode. -/
import Derived.Test.YtcjjlmjamcmnpaaDoorBldS
import Derived.Test.YtcjjlmjamcmnpaaDoorPuB
namespace Go.Proofs.YtcjjlmjamcmnpaaDoor
open Go.RowKit Go.Lib Go.Proofs.Foot

/-- The first block made since w0 is a builder that holds acc; of what was there at w0 nothing has turned. -/
def St (w0 : World) (acc : List UInt8) (w : World) : Prop :=
  ∃ v, Bld w0.heap.size acc v w ∧ Below w0.heap.size w0 w ∧ ∀ j, v.ownBlock = some j → w0.heap.size ≤ j
theorem St.start (w0 : World) : St w0 [] (w0.alloc (.cells #[.pointer none, .slice none 0 0] 37)) :=
  ⟨_, Bld.fresh w0, (Below.refl _ _).alloc (Nat.le_refl _) _, by simp [Value.ownBlock]⟩
theorem St.below {w0 : World} {acc : List UInt8} {w w' : World} (h : St w0 acc w) (hb : Below w.heap.size w w') : St w0 acc w' := by
  obtain ⟨v, hB, hbel, hv⟩ := h
  exact ⟨v, hB.touch (Touch.of_below (S := fun _ => False) hb) (fun h => h) (fun _ _ h => h), below_chain hbel hb, hv⟩
theorem St.drewN {w0 : World} {acc : List UInt8} {w : World} (h : St w0 acc w) (n : Nat) : St w0 acc (w.drewN n) := h.below (below_drewN (Below.refl _ w) n)
theorem St.wrote {w0 : World} {acc m : List UInt8} {v : Value} {w w' : World} (hbel : Below w0.heap.size w0 w) (hv : ∀ j, v.ownBlock = some j → w0.heap.size ≤ j) (h : Wrote w0.heap.size (acc ++ m) v w w') : St w0 (acc ++ m) w' := by
  obtain ⟨v', hB, hT, hP⟩ := h
  refine ⟨v', hB, hbel.trans (hT.below ?_ hbel.size), ?_⟩
  · rintro j (e | e)
    · omega
    · exact hv j e
  · intro j hj
    rcases hP j hj with h | h
    · exact hv j h
    · have := hbel.size; omega
theorem St.shaped {w0 : World} {acc : List UInt8} {w : World} (h : St w0 acc w) (hsh : w0.ShapedOpen Tryd.prog) : w.ShapedOpen Tryd.prog := by
  obtain ⟨v, _, hbel, _⟩ := h
  exact hsh.keptBut (hbel.frame (fun _ => False)) (fun _ h => h.elim)
theorem St.cell {w0 : World} {acc : List UInt8} {w : World} (h : St w0 acc w) {a : Addr} {x : Value} (hx : w0.cell? a = some x) : w.cell? a = some x := by
  obtain ⟨v, _, hbel, _⟩ := h
  exact (hbel.cell (Lib.lt_of_cell hx)).trans hx
theorem ws_St {w0 : World} {acc : List UInt8} {w : World} (h : St w0 acc w) (s : ByteArray) (hlen : acc.length + s.size ≤ 140737488355328) :
    Calls Tryd.prog 16 #[.pointer (some ⟨w0.heap.size, 0, none⟩), .string s] w fun e w' => e = .returned (.tuple #[.int .i64 s.size, .nilIface]) ∧ St w0 (acc ++ s.data.toList) w' := by
  obtain ⟨v, hB, hbel, hv⟩ := h
  exact (writeString_any _ _ v s w hB hlen).mono fun e w' ⟨he, hw⟩ => ⟨he, St.wrote hbel hv hw⟩
theorem wb_St {w0 : World} {acc : List UInt8} {w : World} (h : St w0 acc w) (c : UInt8) (hlen : acc.length + 1 ≤ 140737488355328) :
    Calls Tryd.prog 19 #[.pointer (some ⟨w0.heap.size, 0, none⟩), .int .u8 c.toNat] w fun e w' => e = .returned .nilIface ∧ St w0 (acc ++ [c]) w' := by
  obtain ⟨v, hB, hbel, hv⟩ := h
  exact (writeByte_any _ _ v c w hB hlen).mono fun e w' ⟨he, hw⟩ => ⟨he, St.wrote hbel hv hw⟩
theorem str_St {w0 : World} {acc : List UInt8} {w : World} (h : St w0 acc w) :
    Calls Tryd.prog 17 #[.pointer (some ⟨w0.heap.size, 0, none⟩)] w fun e w' => e = .returned (.string ⟨acc.toArray⟩) ∧ Below w0.heap.size w0 w' := by
  obtain ⟨v, hB, hbel, hv⟩ := h
  exact (bldString_any _ _ v w hB).mono fun e w' ⟨he, hw⟩ => ⟨he, hbel.trans (hw.below hv hbel.size)⟩

/-- A text is cut at its first percent sign. -/
theorem index_pct : ∀ l : List UInt8, (Lib.index l [37] = -1 ∧ (37 : UInt8) ∉ l) ∨ ∃ h r, l = h ++ 37 :: r ∧ (37 : UInt8) ∉ h ∧ Lib.index l [37] = h.length
  | [] => .inl ⟨rfl, by simp⟩
  | c :: l => by
    by_cases hc : c = 37
    · subst hc
      exact .inr ⟨[], l, rfl, by simp, rfl⟩
    · have e : (([37] : List UInt8).isPrefixOf (c :: l)) = false := by simp [List.isPrefixOf]; exact fun h => hc h.symm
      rcases index_pct l with ⟨hi, hn⟩ | ⟨h, r, rfl, hn, hi⟩
      · refine .inl ⟨?_, ?_⟩
        · rw [Lib.index, e, hi]; rfl
        · simp only [List.mem_cons, not_or]; exact ⟨fun e => hc e.symm, hn⟩
      · refine .inr ⟨c :: h, r, rfl, ?_, ?_⟩
        · simp only [List.mem_cons, not_or]; exact ⟨fun e => hc e.symm, hn⟩
        · rw [Lib.index, e, hi, if_neg (by decide), if_neg (by simp)]; simp
theorem cut_no (s : ByteArray) (h : (37 : UInt8) ∉ s.data.toList) (hs : s.size < 4294967281) (w : World) (hsh : w.ShapedOpen Tryd.prog) :
    Calls Tryd.prog 15 #[.string s, .string ⟨#[37]⟩] w fun e w' => e = .returned (.tuple #[.string s, .string ⟨#[]⟩, .bool false]) ∧ ∃ n, w' = w.drewN n := by
  have hc := Tryd.strings_Cut_shaped s ⟨#[37]⟩ w hsh hs
  have e : Lib.cut s.data.toList (⟨#[37]⟩ : ByteArray).data.toList = (s.data.toList, [], false) := by
    unfold Lib.cut
    rcases index_pct s.data.toList with ⟨hi, _⟩ | ⟨a, b, he, _⟩
    · show (if 0 ≤ Lib.index s.data.toList [37] then _ else _) = _
      rw [hi]; rfl
    · rw [he] at h; simp at h
  rw [e] at hc
  exact hc
theorem cut_yes (s : ByteArray) (a b : List UInt8) (he : s.data.toList = a ++ 37 :: b) (hn : (37 : UInt8) ∉ a) (hs : s.size < 4294967281) (w : World) (hsh : w.ShapedOpen Tryd.prog) :
    Calls Tryd.prog 15 #[.string s, .string ⟨#[37]⟩] w fun e w' => e = .returned (.tuple #[.string ⟨a.toArray⟩, .string ⟨b.toArray⟩, .bool true]) ∧ ∃ n, w' = w.drewN n := by
  have hc := Tryd.strings_Cut_shaped s ⟨#[37]⟩ w hsh hs
  have e : Lib.cut s.data.toList (⟨#[37]⟩ : ByteArray).data.toList = (a, b, true) := by
    unfold Lib.cut
    show (if 0 ≤ Lib.index s.data.toList [37] then (s.data.toList.take (Lib.index s.data.toList [37]).toNat, s.data.toList.drop ((Lib.index s.data.toList [37]).toNat + 1), true) else _) = _
    rw [he]
    rcases index_pct (a ++ 37 :: b) with ⟨_, hx⟩ | ⟨a', b', he', hn', hi⟩
    · simp at hx
    · have hl : a = a' ∧ b = b' := by
        clear hi he hc
        induction a generalizing a' with
        | nil =>
          cases a' with
          | nil => simp at he'; exact ⟨rfl, he'⟩
          | cons x a' => simp at he'; simp [← he'.1] at hn'
        | cons y a ih =>
          cases a' with
          | nil => simp at he'; simp [he'.1] at hn
          | cons x a' =>
            simp only [List.cons_append, List.cons.injEq] at he'
            obtain ⟨i1, i2⟩ := ih (fun h => hn (List.mem_cons_of_mem _ h)) a' he'.2 (fun h => hn' (List.mem_cons_of_mem _ h))
            exact ⟨by rw [he'.1, i1], i2⟩
      obtain ⟨rfl, rfl⟩ := hl
      rw [hi, if_pos (by omega)]
      simp
  rw [e] at hc
  exact hc

theorem bytes_ext {s t : ByteArray} (h : s.data.toList = t.data.toList) : s = t := by
  cases s; cases t; simp at h; rw [h]

theorem dec_put {acc a b r L : List UInt8} {c : UInt8} (h : dec (37 :: b) = c :: dec r) (hL : acc ++ (a ++ dec (37 :: b)) = L) : (acc ++ a ++ [c]) ++ dec r = L := by rw [← hL, h]; simp
theorem pairB_sign {x y : UInt8} (h : pairB x y = true) : x.toNat ≠ 43 ∧ x.toNat ≠ 45 := by
  unfold pairB at h
  simp only [Bool.and_eq_true, decide_eq_true_eq] at h
  obtain ⟨h, _⟩ := h
  unfold hexI at h
  split at h
  · omega
  · split at h
    · omega
    · split at h
      · omega
      · omega
def strLen (v : Value) : Nat := match v with | .string t => t.size | _ => 0
/-- What the loop of Decode keeps. -/
def DecRel (l0 : List UInt8) (w0 : World) (t : ByteArray) (w : World) : Prop :=
  ∃ acc, St w0 acc w ∧ acc ++ dec t.data.toList = dec l0 ∧ t.size ≤ l0.length

set_option maxHeartbeats 2000000 in
set_option maxRecDepth 100000 in
theorem decodeA_any (s : ByteArray) (w : World) (hs : s.size ≤ 16777216) (hsh : w.ShapedOpen Tryd.prog) (ev : Value) (hv : w.cell? ⟨1, 0, none⟩ = some ev) (hev : ev = .nilIface ∨ ∃ te pe, ev = .iface te pe) :
    Calls Tryd.prog 10 #[.string s] w fun e w' => e = .returned (.string ⟨(dec s.data.toList).toArray⟩) ∧ Below w.heap.size w w' := by
  have hR0 : DecRel s.data.toList w s (w.alloc (.cells #[.pointer none, .slice none 0 0] 37)) := ⟨[], St.start w, rfl, by rw [Lib.size_eq]; exact Nat.le_refl _⟩
  have HR0 := hid hR0
  have Hsh := hid hsh
  have Hv := hid hv
  have Hev := hid hev
  clear hR0 hsh hv hev
  go_enter Tryd.func10, Tryd.ntmps10
  go_wp2
  go_loopw [0] (fun x wr => ∃ t : ByteArray, x = .string t ∧ Hid (DecRel s.data.toList w t wr)) (fun x _ => strLen x)
  case atStart => exact ⟨s, rfl, HR0.out⟩
  case round =>
    obtain ⟨t, rfl, hr⟩ := hrel
    obtain ⟨acc, hst, hacc, hts⟩ := hr.out
    clear hr
    have hsl : s.data.toList.length = s.size := (Lib.size_eq s).symm
    have hdl := dec_length s.data.toList
    have hal : acc.length + (dec t.data.toList).length = (dec s.data.toList).length := by rw [← hacc, List.length_append]
    have Hst := hid hst
    have Hacc := hid hacc
    have htl : t.data.toList.length = t.size := (Lib.size_eq t).symm
    rcases index_pct t.data.toList with ⟨_, hno⟩ | ⟨a, b, he, hn, _⟩
    · have hcut := cut_no t hno (by omega) wr (hst.shaped Hsh.out)
      have Hcut := hid hcut
      have Hno := hid hno
      clear hcut hno hst hacc
      go_wp2_with (first
        | (go_at_call 15; refine Hcut.out.mono ?_; rintro e w1 ⟨rfl, n, rfl⟩)
        | (go_at_call 16; refine (ws_St (Hst.out.drewN _) _ (by omega)).mono ?_; rintro e w2 ⟨rfl, hst2⟩; have Hst2 := hid hst2; clear hst2)
        | (go_at_call 17; refine (str_St Hst2.out).mono ?_; rintro e w3 ⟨rfl, hb3⟩))
      go_ret
      exact ⟨ret_str (by rw [← Hacc.out, dec_ne_all Hno.out]), hb3⟩
    · obtain ⟨Ha, hHa⟩ : ∃ H : ByteArray, H = ⟨a.toArray⟩ := ⟨_, rfl⟩
      obtain ⟨R, hR⟩ : ∃ R : ByteArray, R = ⟨b.toArray⟩ := ⟨_, rfl⟩
      have hcut := cut_yes t a b he hn (by omega) wr (hst.shaped Hsh.out)
      rw [← hHa, ← hR] at hcut
      have hal2 : Ha.data.toList = a := by rw [hHa]
      have hRl : R.data.toList = b := by rw [hR]
      have hHs : Ha.size = a.length := by rw [Lib.size_eq, hal2]
      have hRs : R.size = b.length := by rw [Lib.size_eq, hRl]
      have hdt : dec t.data.toList = a ++ dec (37 :: b) := by rw [he, dec_append_ne hn]
      have hla : a.length + 1 + b.length = t.size := by rw [← htl, he]; simp; omega
      have hd2 : acc.length + a.length + 1 ≤ 140737488355328 := by
        rw [hdt, List.length_append] at hal; omega
      rw [hdt] at hacc
      have Hacc2 := hid hacc
      have Hcut := hid hcut
      have Hal2 := hid hal2
      have HRl := hid hRl
      clear hcut hst hacc hHa hR hal2 hRl hdt Hacc he hn
      have hRle : R.size + 1 ≤ t.size := by omega
      by_cases hsh : b.length < 2
      · have h2 : R.size < 2 := by omega
        have Hb2 := hid hsh
        clear hsh hRs hla
        go_wp2_with (first
          | (go_at_call 15; refine Hcut.out.mono ?_; rintro e w1 ⟨rfl, n, rfl⟩)
          | (go_at_call 16; refine (ws_St (Hst.out.drewN _) _ (by omega)).mono ?_; rintro e w2 ⟨rfl, hst2⟩; have Hst2 := hid hst2; clear hst2)
          | (go_at_call 19; refine (wb_St Hst2.out 37 (by rw [List.length_append, Hal2.out]; omega)).mono ?_; rintro e w3 ⟨rfl, hst3⟩; have Hst3 := hid hst3; clear hst3))
        go_roundw
        case rel => exact ⟨R, rfl, hid ⟨_, Hst3.out, by rw [Hal2.out, HRl.out]; exact dec_put (dec_short 37 Hb2.out) Hacc2.out, by omega⟩⟩
        case measure => simp [strLen]; omega
      · obtain ⟨x, y, r, rfl⟩ : ∃ x y r, b = x :: y :: r := by
          match b, hsh with
          | x :: y :: r, _ => exact ⟨x, y, r, rfl⟩
          | [x], h => exact absurd (by simp) h
          | [], h => exact absurd (by simp) h
        simp only [List.length_cons] at hla hRs
        have h2 : ¬ R.size < 2 := by omega
        have h20 : 2 ≤ R.size := by omega
        have h0R : 0 < R.size := by omega
        have hx0 : R[0]'h0R = x := by
          have : R.data.toList[0]'(by rw [← Lib.size_eq]; omega) = x := by simp [HRl.out]
          exact this
        have Hb2 : Hid (r.length + 2 = R.size) := hid (by omega)
        clear hsh hRs
        have Hwb := fun (c : UInt8) (w2 : World) (h : St w (acc ++ Ha.data.toList) w2) => wb_St h c (by rw [List.length_append, Hal2.out]; omega)
        have HWB := hid Hwb
        clear Hwb
        have h256 := x.toNat_lt
        have E1 : Hid ((R.extract 0 2).data.toList = [x, y]) := by
          rw [extract_eq, HRl.out]; exact hid rfl
        have E2 : Hid ((R.extract 2 R.size).data.toList = r) := by
          rw [extract_eq, HRl.out, List.take_of_length_le (by have := Hb2.out; simp; omega)]; exact hid rfl
        cases hp : pairB x y with
        | true =>
          obtain ⟨n43, n45⟩ := pairB_sign hp
          have e43 : ((x.toNat : Int) == 43) = false := by rw [beq_eq_false_iff_ne]; omega
          have e45 : ((x.toNat : Int) == 45) = false := by rw [beq_eq_false_iff_ne]; omega
          have e43' : ((x.toNat : Int) != 43) = true := by rw [bne, e43]; rfl
          have e45' : ((x.toNat : Int) != 45) = true := by rw [bne, e45]; rfl
          have hpv : (pairV x y).toNat < 256 := (pairV x y).toNat_lt
          have Hph := hid (fun w => parseHex_yes _ x y E1.out hp w)
          have Hp := hid hp
          clear hp
          go_wp2_with (first
            | (go_at_call 15; refine Hcut.out.mono ?_; rintro e w1 ⟨rfl, n, rfl⟩)
            | (go_at_call 16; refine (ws_St (Hst.out.drewN _) _ (by omega)).mono ?_; rintro e w2 ⟨rfl, hst2⟩; have Hst2 := hid hst2; clear hst2)
            | (go_at_call 18; refine (Hph.out _).mono ?_; rintro e w4 ⟨rfl, hb4⟩; have Hst4 := hid (Hst2.out.below hb4); clear hb4)
            | (go_at_call 19; refine (HWB.out (pairV x y) _ Hst4.out).mono ?_; rintro e w3 ⟨rfl, hst3⟩; have Hst3 := hid hst3; clear hst3))
          go_roundw
          case rel => exact ⟨_, rfl, hid ⟨_, Hst3.out, by rw [Hal2.out, E2.out]; exact dec_put (dec_yes Hp.out) Hacc2.out, by rw [Lib.size_eq, E2.out]; omega⟩⟩
          case measure => show strLen (.string (R.extract 2 R.size)) < _; simp only [strLen]; rw [Lib.size_eq, E2.out]; omega
        | false =>
          have Hp := hid hp
          have Hno := hid (fun w2 (h : St w (acc ++ Ha.data.toList) w2) => parseHex_no _ x y E1.out hp w2 ev (h.cell Hv.out) Hev.out)
          clear hp
          by_cases hsg : x.toNat = 43 ∨ x.toNat = 45
          · rcases hsg with hsg | hsg
            · have e43 : ((x.toNat : Int) == 43) = true := by rw [hsg]; rfl
              have e43' : ((x.toNat : Int) != 43) = false := by rw [bne, e43]; rfl
              go_wp2_with (first
                | (go_at_call 15; refine Hcut.out.mono ?_; rintro e w1 ⟨rfl, n, rfl⟩)
                | (go_at_call 16; refine (ws_St (Hst.out.drewN _) _ (by omega)).mono ?_; rintro e w2 ⟨rfl, hst2⟩; have Hst2 := hid hst2; clear hst2)
                | (go_at_call 19; refine (HWB.out 37 _ Hst2.out).mono ?_; rintro e w3 ⟨rfl, hst3⟩; have Hst3 := hid hst3; clear hst3))
              go_roundw
              case rel => exact ⟨R, rfl, hid ⟨_, Hst3.out, by rw [Hal2.out, HRl.out]; exact dec_put (dec_no 37 Hp.out) Hacc2.out, by omega⟩⟩
              case measure => simp [strLen]; omega
            · have e43 : ((x.toNat : Int) == 43) = false := by rw [hsg]; rfl
              have e43' : ((x.toNat : Int) != 43) = true := by rw [bne, e43]; rfl
              have e45 : ((x.toNat : Int) == 45) = true := by rw [hsg]; rfl
              have e45' : ((x.toNat : Int) != 45) = false := by rw [bne, e45]; rfl
              clear hsg
              go_wp2_with (first
                | (go_at_call 15; refine Hcut.out.mono ?_; rintro e w1 ⟨rfl, n, rfl⟩)
                | (go_at_call 16; refine (ws_St (Hst.out.drewN _) _ (by omega)).mono ?_; rintro e w2 ⟨rfl, hst2⟩; have Hst2 := hid hst2; clear hst2)
                | (go_at_call 19; refine (HWB.out 37 _ Hst2.out).mono ?_; rintro e w3 ⟨rfl, hst3⟩; have Hst3 := hid hst3; clear hst3))
              go_roundw
              case rel => exact ⟨R, rfl, hid ⟨_, Hst3.out, by rw [Hal2.out, HRl.out]; exact dec_put (dec_no 37 Hp.out) Hacc2.out, by omega⟩⟩
              case measure => simp [strLen]; omega
          · have e43 : ((x.toNat : Int) == 43) = false := by rw [beq_eq_false_iff_ne]; omega
            have e45 : ((x.toNat : Int) == 45) = false := by rw [beq_eq_false_iff_ne]; omega
            have e43' : ((x.toNat : Int) != 43) = true := by rw [bne, e43]; rfl
            have e45' : ((x.toNat : Int) != 45) = true := by rw [bne, e45]; rfl
            clear hsg
            go_wp2_with (first
              | (go_at_call 15; refine Hcut.out.mono ?_; rintro e w1 ⟨rfl, n, rfl⟩)
              | (go_at_call 16; refine (ws_St (Hst.out.drewN _) _ (by omega)).mono ?_; rintro e w2 ⟨rfl, hst2⟩; have Hst2 := hid hst2; clear hst2)
              | (go_at_call 18; refine (Hno.out _ Hst2.out).mono ?_; rintro e w4 ⟨N, rfl, hb4⟩; have Hst4 := hid (Hst2.out.below hb4); clear hb4)
              | (go_at_call 19; refine (HWB.out 37 _ Hst4.out).mono ?_; rintro e w3 ⟨rfl, hst3⟩; have Hst3 := hid hst3; clear hst3))
            go_roundw
            case rel => exact ⟨R, rfl, hid ⟨_, Hst3.out, by rw [Hal2.out, HRl.out]; exact dec_put (dec_no 37 Hp.out) Hacc2.out, by omega⟩⟩
            case measure => simp [strLen]; omega
end Go.Proofs.YtcjjlmjamcmnpaaDoor
