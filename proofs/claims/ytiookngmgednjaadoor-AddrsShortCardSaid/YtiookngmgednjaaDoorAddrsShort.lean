/- Walk of the law AddrsShort: the text of sixteen bytes is short, without great letters and noughts ahead. -/
import Derived.Test.YtiookngmgednjaaDoorAb1
namespace Go.Proofs.YtiookngmgednjaaDoor
open Go.RowKit Go.Lib Go.Proofs.Foot

/-- What the tests of a sign answer. -/
theorem sign_ways {c : UInt8} (h : okSign c) : ∃ f58 g57 l97 f48 : Bool, ((c == 58) = f58 ∧ (c == 48) = f48) ∧ (((c.toNat : Int) != 58) = !f58 ∧ ((c.toNat : Int) == 58) = f58 ∧ decide ((c.toNat : Int) < 48) = false ∧ decide ((57 : Int) < (c.toNat : Int)) = g57 ∧ decide ((c.toNat : Int) < 97) = l97 ∧ decide ((102 : Int) < (c.toNat : Int)) = false ∧ ((c.toNat : Int) == 48) = f48) ∧
    ((f58 = true ∧ g57 = true ∧ l97 = true ∧ f48 = false) ∨ (f58 = false ∧ g57 = false ∧ l97 = true ∧ f48 = false) ∨ (f58 = false ∧ g57 = false ∧ l97 = true ∧ f48 = true) ∨ (f58 = false ∧ g57 = true ∧ l97 = false ∧ f48 = false)) := by
  have hq : ∀ d : UInt8, ((c.toNat : Int) == (d.toNat : Int)) = (c == d) := by
    intro d
    rw [Bool.eq_iff_iff, beq_iff_eq, beq_iff_eq]
    constructor
    · intro h; exact UInt8.toNat.inj (by omega)
    · intro h; rw [h]
  have h58 := hq 58
  have h48 := hq 48
  rw [show ((58 : UInt8).toNat : Int) = 58 from rfl] at h58
  rw [show ((48 : UInt8).toNat : Int) = 48 from rfl] at h48
  have e58 : (c = 58) ↔ c.toNat = 58 := ⟨fun h => by rw [h]; rfl, fun h => UInt8.toNat.inj h⟩
  have e48 : (c = 48) ↔ c.toNat = 48 := ⟨fun h => by rw [h]; rfl, fun h => UInt8.toNat.inj h⟩
  refine ⟨c == 58, decide ((57 : Int) < (c.toNat : Int)), decide ((c.toNat : Int) < 97), c == 48, ⟨rfl, rfl⟩, ⟨by rw [bne, h58], h58, ?_, rfl, rfl, ?_, h48⟩, ?_⟩
  · rcases h with h | h | h
    · exact decide_eq_false (by have := e58.1 h; omega)
    · exact decide_eq_false (by omega)
    · exact decide_eq_false (by omega)
  · rcases h with h | h | h
    · exact decide_eq_false (by have := e58.1 h; omega)
    · exact decide_eq_false (by omega)
    · exact decide_eq_false (by omega)
  · rcases h with h | h | h
    · have := e58.1 h
      left
      refine ⟨by rw [beq_iff_eq]; exact h, decide_eq_true (by omega), decide_eq_true (by omega), by rw [beq_eq_false_iff_ne]; intro e; have := e48.1 e; omega⟩
    · have n58 : (c == 58) = false := by rw [beq_eq_false_iff_ne]; intro e; have := e58.1 e; omega
      by_cases h4 : c = 48
      · exact .inr (.inr (.inl ⟨n58, decide_eq_false (by omega), decide_eq_true (by omega), by rw [beq_iff_eq]; exact h4⟩))
      · exact .inr (.inl ⟨n58, decide_eq_false (by omega), decide_eq_true (by omega), by rw [beq_eq_false_iff_ne]; exact h4⟩)
    · exact .inr (.inr (.inr ⟨by rw [beq_eq_false_iff_ne]; intro e; have := e58.1 e; omega, decide_eq_true (by omega), decide_eq_false (by omega), by rw [beq_eq_false_iff_ne]; intro e; have := e48.1 e; omega⟩))
theorem is58 {c : UInt8} {q : Bool} (h : (c == 58) = q) : ((c.toNat : Int) == 58) = q ∧ ((c.toNat : Int) != 58) = !q := by
  have e : ((c.toNat : Int) == 58) = (c == 58) := by
    rw [Bool.eq_iff_iff, beq_iff_eq, beq_iff_eq]
    constructor
    · intro h; exact UInt8.toNat.inj (by show c.toNat = 58; omega)
    · intro h; rw [h]; rfl
  exact ⟨e.trans h, by rw [bne, e, h]⟩
set_option maxHeartbeats 4000000 in
set_option maxRecDepth 100000 in
theorem addrsShort_at (b0 b1 b2 b3 b4 b5 b6 b7 b8 b9 b10 b11 b12 b13 b14 b15 : UInt8) (x0 x1 x2 x3 x4 x5 x6 x7 x8 x9 x10 x11 x12 x13 x14 x15 : Value) (e0 : x0 = .int .u8 b0.toNat) (e1 : x1 = .int .u8 b1.toNat) (e2 : x2 = .int .u8 b2.toNat) (e3 : x3 = .int .u8 b3.toNat) (e4 : x4 = .int .u8 b4.toNat) (e5 : x5 = .int .u8 b5.toNat) (e6 : x6 = .int .u8 b6.toNat) (e7 : x7 = .int .u8 b7.toNat) (e8 : x8 = .int .u8 b8.toNat) (e9 : x9 = .int .u8 b9.toNat) (e10 : x10 = .int .u8 b10.toNat) (e11 : x11 = .int .u8 b11.toNat) (e12 : x12 = .int .u8 b12.toNat) (e13 : x13 = .int .u8 b13.toNat) (e14 : x14 = .int .u8 b14.toNat) (e15 : x15 = .int .u8 b15.toNat) (w : World) (A0 : Amb w) :
    Calls Tryd.prog 9 #[.agg #[x0, x1, x2, x3, x4, x5, x6, x7, x8, x9, x10, x11, x12, x13, x14, x15]] w fun e w' => e = .returned (.bool true) ∧ Below w.heap.size w w' := by
  obtain ⟨C6, hC6⟩ : ∃ C6, C6 = adrC true [b0, b1, b2, b3, b4, b5, b6, b7, b8, b9, b10, b11, b12, b13, b14, b15] := ⟨_, rfl⟩
  obtain ⟨T, hT⟩ : ∃ T : ByteArray, T = ⟨(sixL [b0, b1, b2, b3, b4, b5, b6, b7, b8, b9, b10, b11, b12, b13, b14, b15]).toArray⟩ := ⟨_, rfl⟩
  have hl : T.data.toList = sixL [b0, b1, b2, b3, b4, b5, b6, b7, b8, b9, b10, b11, b12, b13, b14, b15] := by rw [hT]
  have hlen := sixL_len [b0, b1, b2, b3, b4, b5, b6, b7, b8, b9, b10, b11, b12, b13, b14, b15]
  rw [← hl, ← Lib.size_eq] at hlen
  have Htwo := hid (show twos T.data.toList ≤ 1 by rw [hl]; exact sixL_twos _)
  have Hcan := hid (show canonB true T.data.toList = true by rw [hl]; exact sixL_canon _)
  have Hsign := hid (show ∀ c ∈ T.data.toList, okSign c from fun c hc => by rw [hl] at hc; exact sixL_sign hc)
  have H1 : Hid (Tells C6 T) := hid (by rw [hC6, hT]; exact tells_six _ rfl)
  have HD : Hid ((Tryd.prog.info? 22).map (·.size) = some (#[x0, x1, x2, x3, x4, x5, x6, x7, x8, x9, x10, x11, x12, x13, x14, x15] : Array Value).size) := hid (by kernel_rfl)
  have G := hid A0
  have hX6 : C6 = #[.bool true, x0, x1, x2, x3, x4, x5, x6, x7, x8, x9, x10, x11, x12, x13, x14, x15] := by rw [hC6, e0, e1, e2, e3, e4, e5, e6, e7, e8, e9, e10, e11, e12, e13, e14, e15]; rfl
  have W0 := hid (Boxed.start w #[x0, x1, x2, x3, x4, x5, x6, x7, x8, x9, x10, x11, x12, x13, x14, x15])
  have hz1 : (2 : Int) ≤ (T.size : Int) := by omega
  have hz2 : (T.size : Int) ≤ 39 := by omega
  clear hT hl hlen hC6 A0 e0 e1 e2 e3 e4 e5 e6 e7 e8 e9 e10 e11 e12 e13 e14 e15
  go_enter Tryd.func9, Tryd.ntmps9
  go_upto_region 1 with fail
  have hg0 := W0.out.box
  generalize w.alloc _ = w1 at *
  go_wp2_with (refine wpList_load_row rfl 22 _ rfl w.heap.size rfl _ _ _ _ hg0 Tryd.underlying22 rfl HD.out ?_)
  rw [← hX6]
  have B1 := hid W0.out.adr.below
  clear hg0 HD hX6 W0
  refine (tells_goH H1 (G.out.tab.below B1.out)).mono ?_
  rintro e w2 ⟨rfl, hb2⟩
  have B2 := hid (below_chain B1.out hb2)
  clear hb2 H1
  go_wp2_with fail
  go_loop [4, 5] (fun tv iv => ∃ k t : Nat, k ≤ T.size ∧ iv = .int .i64 k ∧ tv = .int .i64 t ∧ t ≤ k ∧ Hid (t = twos (T.data.toList.take k))) (fun _ iv => T.size - (RowKit.intOf iv).toNat)
  case atStart => exact ⟨0, 0, Nat.zero_le _, rfl, rfl, Nat.le_refl _, hid rfl⟩
  case round =>
    obtain ⟨k, t, hk, rfl, rfl, htk, Ht⟩ := hrel
    by_cases hlt : k < T.size
    · have hsl : T.data.toList.length = T.size := (Lib.size_eq T).symm
      have hkl : k < T.data.toList.length := by omega
      obtain ⟨c, hc⟩ : ∃ c, T[k]'hlt = c := ⟨_, rfl⟩
      have hcl : T.data.toList[k]'hkl = c := hc
      obtain ⟨f58, g57, l97, f48, ⟨c58, c48⟩, hfacts, hways⟩ := sign_ways (Hsign.out c (by rw [← hcl]; exact List.getElem_mem hkl))
      have Hf := hid hfacts
      clear hfacts
      have ht39 : t ≤ 39 := by omega
      have qt : IntKind.i64.wrap ((t : Int) + 1) = (t : Int) + 1 := IntWalk.i64_in _ (by omega)
      cases k with
      | zero =>
        have htt := twos_take hkl
        have ht0 : t = 0 := by omega
        have Hn := hid (show (0 : Nat) = twos (T.data.toList.take (0 + 1)) by rw [htt]; simp [twos])
        subst ht0
        have hn : 0 + 1 < T.size := by omega
        have hn1 : (1 : Int) < (T.size : Int) := by omega
        obtain ⟨d, hd⟩ : ∃ d, T[0 + 1]'hn = d := ⟨_, rfl⟩
        have Hd := hid (show f48 = true → (d == 58) = true from fun h => by
          rw [beq_iff_eq, ← hd]
          exact canon_at Hcan.out 0 (by omega) (by rw [hcl]; rw [h] at c48; exact beq_iff_eq.1 c48) (.inl ⟨rfl, rfl⟩))
        clear c58 c48 hcl htt
        rcases hways with ⟨h1, h2, h3, h4⟩ | ⟨h1, h2, h3, h4⟩ | ⟨h1, h2, h3, h4⟩ | ⟨h1, h2, h3, h4⟩
        · obtain ⟨u1, u2, u3, u4, u5, u6, u7⟩ := Hf.out
          rw [h1] at u1 u2
          rw [h2] at u4
          rw [h3] at u5
          rw [h4] at u7
          clear h1 h2 h3 h4 Hf Hd
          go_wp2
          exact ⟨⟨0 + 1, 0, by omega, by go_num, by go_num, by omega, Hn⟩, by simp only [RowKit.intOf]; omega⟩
        · obtain ⟨u1, u2, u3, u4, u5, u6, u7⟩ := Hf.out
          rw [h1] at u1 u2
          rw [h2] at u4
          rw [h3] at u5
          rw [h4] at u7
          clear h1 h2 h3 h4 Hf Hd
          go_wp2
          exact ⟨⟨0 + 1, 0, by omega, by go_num, by go_num, by omega, Hn⟩, by simp only [RowKit.intOf]; omega⟩
        · obtain ⟨u1, u2, u3, u4, u5, u6, u7⟩ := Hf.out
          rw [h1] at u1 u2
          rw [h2] at u4
          rw [h3] at u5
          rw [h4] at u7
          have hd58 := (is58 (Hd.out h4)).2
          clear h1 h2 h3 h4 Hf Hd
          go_wp2
          exact ⟨⟨0 + 1, 0, by omega, by go_num, by go_num, by omega, Hn⟩, by simp only [RowKit.intOf]; omega⟩
        · obtain ⟨u1, u2, u3, u4, u5, u6, u7⟩ := Hf.out
          rw [h1] at u1 u2
          rw [h2] at u4
          rw [h3] at u5
          rw [h4] at u7
          clear h1 h2 h3 h4 Hf Hd
          go_wp2
          exact ⟨⟨0 + 1, 0, by omega, by go_num, by go_num, by omega, Hn⟩, by simp only [RowKit.intOf]; omega⟩
      | succ j =>
        have hjl : j < T.size := by omega
        obtain ⟨p, hp⟩ : ∃ p, T[j]'hjl = p := ⟨_, rfl⟩
        have hpl : T.data.toList[j]'(by omega) = p := hp
        obtain ⟨pq, hpq⟩ : ∃ pq, (p == 58) = pq := ⟨_, rfl⟩
        have htt := twos_take hkl
        have Hn := hid (show (t + if pq = true ∧ f58 = true then 1 else 0) = twos (T.data.toList.take (j + 1 + 1)) by
          rw [htt, ← Ht.out]
          congr 1
          have e1 : (pq = true ∧ f58 = true) ↔ ((0 < j + 1 ∧ T.data.toList[j + 1 - 1]'(by omega) = 58) ∧ T.data.toList[j + 1]'(by omega) = 58) := by
            rw [hcl]
            show _ ↔ ((_ ∧ T.data.toList[j]'_ = 58) ∧ _)
            rw [hpl, ← hpq, ← c58, beq_iff_eq, beq_iff_eq]
            exact ⟨fun h => ⟨⟨by omega, h.1⟩, h.2⟩, fun h => ⟨h.1.2, h.2⟩⟩
          by_cases hh : pq = true ∧ f58 = true
          · rw [if_pos hh, if_pos (e1.1 hh)]
          · rw [if_neg hh, if_neg (fun h => hh (e1.2 h))])
        have hp58 := is58 hpq
        have jq : IntKind.i64.wrap (j : Int) = (j : Int) := IntWalk.i64_in _ (by omega)
        have j0 : (0 : Int) < (j : Int) + 1 := by omega
        have jn : ((j : Int) + 1 == 0) = false := by rw [beq_eq_false_iff_ne]; omega
        have jn2 : ¬ (j : Int) + 1 = 0 := by omega
        have Hd := hid (show ∀ hn : j + 1 + 1 < T.size, f48 = true → pq = true → (T[j + 1 + 1]'hn == 58) = true from fun hn h hq => by
          rw [beq_iff_eq]
          exact canon_at Hcan.out (j + 1) (by omega) (by rw [hcl]; rw [h] at c48; exact beq_iff_eq.1 c48) (.inr ⟨by omega, by show T.data.toList[j]'_ = 58; rw [hpl]; rw [hq] at hpq; exact beq_iff_eq.1 hpq⟩))
        clear c58 c48 hcl htt hpl hpq
        have hqw : pq = false ∨ pq = true := by cases pq <;> simp
        rcases hqw with hq | hq
        · rcases hways with ⟨h1, h2, h3, h4⟩ | ⟨h1, h2, h3, h4⟩ | ⟨h1, h2, h3, h4⟩ | ⟨h1, h2, h3, h4⟩
          · obtain ⟨u1, u2, u3, u4, u5, u6, u7⟩ := Hf.out
            rw [h1] at u1 u2
            rw [h2] at u4
            rw [h3] at u5
            rw [h4] at u7
            obtain ⟨v1, v2⟩ := hp58
            rw [hq] at v1 v2
            have Hm := hid (show t = twos (T.data.toList.take (j + 1 + 1)) by have := Hn.out; rw [hq, h1] at this; simpa using this)
            clear h1 h2 h3 h4 Hf Hd Hn hq
            go_wp2
            exact ⟨⟨j + 1 + 1, t, by omega, by go_num, by go_num, by omega, Hm⟩, by simp only [RowKit.intOf]; omega⟩
          · obtain ⟨u1, u2, u3, u4, u5, u6, u7⟩ := Hf.out
            rw [h1] at u1 u2
            rw [h2] at u4
            rw [h3] at u5
            rw [h4] at u7
            obtain ⟨v1, v2⟩ := hp58
            rw [hq] at v1 v2
            have Hm := hid (show t = twos (T.data.toList.take (j + 1 + 1)) by have := Hn.out; rw [hq, h1] at this; simpa using this)
            clear h1 h2 h3 h4 Hf Hd Hn hq
            go_wp2
            exact ⟨⟨j + 1 + 1, t, by omega, by go_num, by go_num, by omega, Hm⟩, by simp only [RowKit.intOf]; omega⟩
          · obtain ⟨u1, u2, u3, u4, u5, u6, u7⟩ := Hf.out
            rw [h1] at u1 u2
            rw [h2] at u4
            rw [h3] at u5
            rw [h4] at u7
            obtain ⟨v1, v2⟩ := hp58
            rw [hq] at v1 v2
            have Hm := hid (show t = twos (T.data.toList.take (j + 1 + 1)) by have := Hn.out; rw [hq, h1] at this; simpa using this)
            clear h1 h2 h3 h4 Hf Hd Hn hq
            go_wp2
            exact ⟨⟨j + 1 + 1, t, by omega, by go_num, by go_num, by omega, Hm⟩, by simp only [RowKit.intOf]; omega⟩
          · obtain ⟨u1, u2, u3, u4, u5, u6, u7⟩ := Hf.out
            rw [h1] at u1 u2
            rw [h2] at u4
            rw [h3] at u5
            rw [h4] at u7
            obtain ⟨v1, v2⟩ := hp58
            rw [hq] at v1 v2
            have Hm := hid (show t = twos (T.data.toList.take (j + 1 + 1)) by have := Hn.out; rw [hq, h1] at this; simpa using this)
            clear h1 h2 h3 h4 Hf Hd Hn hq
            go_wp2
            exact ⟨⟨j + 1 + 1, t, by omega, by go_num, by go_num, by omega, Hm⟩, by simp only [RowKit.intOf]; omega⟩
        · rcases hways with ⟨h1, h2, h3, h4⟩ | ⟨h1, h2, h3, h4⟩ | ⟨h1, h2, h3, h4⟩ | ⟨h1, h2, h3, h4⟩
          · obtain ⟨u1, u2, u3, u4, u5, u6, u7⟩ := Hf.out
            rw [h1] at u1 u2
            rw [h2] at u4
            rw [h3] at u5
            rw [h4] at u7
            obtain ⟨v1, v2⟩ := hp58
            rw [hq] at v1 v2
            have Hm := hid (show t + 1 = twos (T.data.toList.take (j + 1 + 1)) by have := Hn.out; rw [hq, h1] at this; simpa using this)
            clear h1 h2 h3 h4 Hf Hd Hn hq
            go_wp2
            exact ⟨⟨j + 1 + 1, t + 1, by omega, by go_num, by go_num, by omega, Hm⟩, by simp only [RowKit.intOf]; omega⟩
          · obtain ⟨u1, u2, u3, u4, u5, u6, u7⟩ := Hf.out
            rw [h1] at u1 u2
            rw [h2] at u4
            rw [h3] at u5
            rw [h4] at u7
            obtain ⟨v1, v2⟩ := hp58
            rw [hq] at v1 v2
            have Hm := hid (show t = twos (T.data.toList.take (j + 1 + 1)) by have := Hn.out; rw [hq, h1] at this; simpa using this)
            clear h1 h2 h3 h4 Hf Hd Hn hq
            go_wp2
            exact ⟨⟨j + 1 + 1, t, by omega, by go_num, by go_num, by omega, Hm⟩, by simp only [RowKit.intOf]; omega⟩
          · by_cases hn : j + 1 + 1 < T.size
            · obtain ⟨d, hd⟩ : ∃ d, T[j + 1 + 1]'hn = d := ⟨_, rfl⟩
              have hdd := Hd.out hn h4 hq
              rw [hd] at hdd
              have hd58 := (is58 hdd).2
              have hn1 : (j : Int) + 1 + 1 < (T.size : Int) := by omega
              clear hdd
              obtain ⟨u1, u2, u3, u4, u5, u6, u7⟩ := Hf.out
              rw [h1] at u1 u2
              rw [h2] at u4
              rw [h3] at u5
              rw [h4] at u7
              obtain ⟨v1, v2⟩ := hp58
              rw [hq] at v1 v2
              have Hm := hid (show t = twos (T.data.toList.take (j + 1 + 1)) by have := Hn.out; rw [hq, h1] at this; simpa using this)
              clear h1 h2 h3 h4 Hf Hd Hn hq
              go_wp2
              exact ⟨⟨j + 1 + 1, t, by omega, by go_num, by go_num, by omega, Hm⟩, by simp only [RowKit.intOf]; omega⟩
            · have hn1 : ¬ (j : Int) + 1 + 1 < (T.size : Int) := by omega
              obtain ⟨u1, u2, u3, u4, u5, u6, u7⟩ := Hf.out
              rw [h1] at u1 u2
              rw [h2] at u4
              rw [h3] at u5
              rw [h4] at u7
              obtain ⟨v1, v2⟩ := hp58
              rw [hq] at v1 v2
              have Hm := hid (show t = twos (T.data.toList.take (j + 1 + 1)) by have := Hn.out; rw [hq, h1] at this; simpa using this)
              clear h1 h2 h3 h4 Hf Hd Hn hq
              go_wp2
              exact ⟨⟨j + 1 + 1, t, by omega, by go_num, by go_num, by omega, Hm⟩, by simp only [RowKit.intOf]; omega⟩
          · obtain ⟨u1, u2, u3, u4, u5, u6, u7⟩ := Hf.out
            rw [h1] at u1 u2
            rw [h2] at u4
            rw [h3] at u5
            rw [h4] at u7
            obtain ⟨v1, v2⟩ := hp58
            rw [hq] at v1 v2
            have Hm := hid (show t = twos (T.data.toList.take (j + 1 + 1)) by have := Hn.out; rw [hq, h1] at this; simpa using this)
            clear h1 h2 h3 h4 Hf Hd Hn hq
            go_wp2
            exact ⟨⟨j + 1 + 1, t, by omega, by go_num, by go_num, by omega, Hm⟩, by simp only [RowKit.intOf]; omega⟩
    · have hkT : k = T.size := by omega
      have Htk : Hid (t ≤ 1) := hid (by
        have h1 := Ht.out
        rw [hkT, List.take_of_length_le (by rw [Lib.size_eq]; exact Nat.le_refl _)] at h1
        rw [h1]; exact Htwo.out)
      have ht1 : (t : Int) ≤ 1 := by have := Htk.out; omega
      clear hkT hk
      go_wp2_with fail
      refine (alive_any _ (G.out.below B2.out)).mono ?_
      rintro e w3 ⟨rfl, hb3⟩
      have B3 := hid (below_chain B2.out hb3)
      clear hb3
      go_wp2
      go_ret
      exact ⟨rfl, B3.out⟩
theorem addrsShort_walk (l : List Int) (hl : l.length = 16) (wl : ∀ i ∈ l, (Lit.int .u8 i).wf = true) (w : World) (hL : laidMetH Tryd.prog Rows.addrsShortRow.laid w) (hsh : w.ShapedOpen Tryd.prog) :
    Calls Tryd.prog 9 #[.agg ⟨l.map (Value.int .u8)⟩] w fun e w' => e = .returned (.bool true) ∧ Below w.heap.size w w' := by
  have A0 := ambOf Rows.laid_strconv_ErrSyntax Rows.laid_strconv_ErrRange ⟨_, _, rfl⟩ ⟨_, _, rfl⟩ hL hsh (by kernel_rfl) (by kernel_rfl) (by kernel_rfl) (by kernel_rfl) (by kernel_rfl) (by kernel_rfl)
  obtain ⟨b0, b1, b2, b3, b4, b5, b6, b7, b8, b9, b10, b11, b12, b13, b14, b15, e⟩ := sixteen_of hl wl
  rw [e]
  exact addrsShort_at b0 b1 b2 b3 b4 b5 b6 b7 b8 b9 b10 b11 b12 b13 b14 b15 _ _ _ _ _ _ _ _ _ _ _ _ _ _ _ _ rfl rfl rfl rfl rfl rfl rfl rfl rfl rfl rfl rfl rfl rfl rfl rfl w A0
end Go.Proofs.YtiookngmgednjaaDoor
