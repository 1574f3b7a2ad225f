/-
  The law WireLays, walked.
-/
import Derived.Test.YtiejgandjlldjaaLaysM
import Derived.Test.YtiejgandjlldjaaLaysE
namespace Go.Proofs.Ytiejgandjlldjaa
open Go.RowKit

/-- A slice of Adds, read from old memory. -/
structure Ad (w : World) (A : Option Addr) (b off : Nat) (l : List (Int × Nat × ByteArray)) : Prop where
  at_ : 0 < l.length → A = some ⟨b, off, none⟩ ∧ b < w.heap.size
  get : ∀ (j : Nat) k (n : Nat) s, l[j]? = some (k, n, s) → n < 18446744073709551616 ∧ w.cell? ⟨b, off + j * 3, none⟩ = some (.int .i64 k) ∧ w.cell? ⟨b, off + (j * 3 + 1), none⟩ = some (.int .u64 (n : Int)) ∧ w.cell? ⟨b, off + (j * 3 + 2), none⟩ = some (.string s)
  few : l.length ≤ 140737488351232
  short : ∀ a ∈ l, a.2.2.size ≤ 140737488351232
theorem Ad.keep {w w' : World} {A : Option Addr} {b off : Nat} {l : List (Int × Nat × ByteArray)} (h : Ad w A b off l) (hb : Below w.heap.size w w') : Ad w' A b off l :=
  ⟨fun h0 => ⟨(h.at_ h0).1, Nat.lt_of_lt_of_le (h.at_ h0).2 hb.size⟩, fun j k n s hj => by
    have hlt : j < l.length := by
      rcases Nat.lt_or_ge j l.length with h1 | h1
      · exact h1
      · rw [List.getElem?_eq_none h1] at hj; cases hj
    have hbb := (h.at_ (by omega)).2
    obtain ⟨h1, h2, h3, h4⟩ := h.get j k n s hj
    exact ⟨h1, ((bcell hb).1 b _ hbb).trans h2, ((bcell hb).1 b _ hbb).trans h3, ((bcell hb).1 b _ hbb).trans h4⟩, h.few, h.short⟩
theorem ad_long {w : World} {A : Option Addr} {b off c : Nat} {l : List (Int × Nat × ByteArray)} (h : Ad w A b off l) :
    Calls Try.prog 14 #[.slice A l.length c] w fun e w' => LongSays l w e w' :=
  long_some A b off c l w h.at_ h.few h.short (fun j k n s hj => (h.get j k n s hj).2.2.2)

/-- The low bytes of the first k numbers. -/
def cnt (k : Nat) : List UInt8 := (List.range k).map fun i => by8 i 0
theorem cnt_succ (k : Nat) : cnt (k + 1) = cnt k ++ layB 2 k ⟨#[]⟩ := by
  rw [show layB 2 k ⟨#[]⟩ = leN 1 k from rfl]
  simp [cnt, leN, List.range_succ]
theorem cnt_length (k : Nat) : (cnt k).length = k := by simp [cnt]
theorem wp_cutL {P : Program} {c : Code} {Q : Exit → Act → World → Prop} {a : Act} {w : World} (R : Act → World → Prop) (h1 : c.wp P (fun e a' w' => e = .normal ∧ R a' w') a w) (h2 : ∀ a' w', R a' w' → Q .normal a' w') : c.wp P Q a w :=
  Code.wp_mono (fun e a' w' ⟨he, hR⟩ => by subst he; exact h2 a' w' hR) h1
theorem bytes_append (l k : List UInt8) : (⟨l.toArray⟩ : ByteArray) ++ (⟨k.toArray⟩ : ByteArray) = ⟨(l ++ k).toArray⟩ := by
  apply ByteArray.ext
  simp

set_option maxRecDepth 100000 in
set_option maxHeartbeats 20000000 in
theorem lays_walk (A A2 A3 : Option Addr) (b off c b2 off2 c2 b3 off3 c3 : Nat) (l m : List (Int × Nat × ByteArray)) (q : List Bool) (w : World) (hl : Ad w A b off l) (hm : Ad w A2 b2 off2 m)
    (hq : 0 < q.length → A3 = some ⟨b3, off3, none⟩ ∧ b3 < w.heap.size) (hqc : ∀ (j : Nat) t, q[j]? = some t → w.cell? ⟨b3, off3 + j, none⟩ = some (.bool t)) (hqn : q.length ≤ 140737488351232) :
    Calls Try.prog 5 #[.slice A l.length c, .slice A2 m.length c2, .slice A3 q.length c3] w fun e w' => e = .returned (.bool true) ∧ Below w.heap.size w w' := by
  have HL := Lib.hid hl
  have HM := Lib.hid hm
  have HQ := Lib.hid (And.intro hq (And.intro hqc hqn))
  clear hl hm hq hqc hqn
  go_enter Try.func5, Try.ntmps5
  go_wp2_with fail
  refine (ad_long HL.out).mono ?_
  rintro e w1 ⟨t1, rfl, ht1, hb1⟩
  cases t1
  · have HT1 := Lib.hid (ht1 rfl)
    clear ht1
    go_wp2_with fail
    refine (ad_long (HM.out.keep hb1)).mono ?_
    rintro e w2 ⟨t2, rfl, ht2, hb2⟩
    have hb12 : Below w.heap.size w w2 := hb1.trans (hb2.mono hb1.size)
    cases t2
    · have HT2 := Lib.hid (ht2 rfl)
      clear ht2 hb1 hb2
      go_wp2_with fail
      refine wp_gen (fun W hW => ?_)
      have vO : Var W w2.heap.size 35 #[.slice none 0 0] := by rw [hW]; exact Var.new _ _ _
      have hbW : Below w2.heap.size w2 W := by rw [hW]; go_grown
      have hzW : w2.heap.size + 1 ≤ W.heap.size := vO.lt
      clear hW
      have hBW : Below w.heap.size w W := hb12.trans (hbW.mono hb12.size)
      have hzw := hb12.size
      have HI := Lib.hid (And.intro vO hBW)
      clear vO hBW hbW hb12
      go_loopw [9, 10, 11, 12] (fun al kv wv t wr => ∃ (k ca : Nat) (Aa : Option Addr) (K : List (Value × List UInt8)) (KA WA : Option Addr) (kc wc : Nat), k ≤ l.length ∧ K.length ≤ k ∧ t = .int .i64 (k : Int) ∧ al = .slice Aa (layAll (l.take k)).length ca ∧ kv = .slice KA K.length kc ∧ wv = .slice WA K.length wc ∧
        OutFr wr w2.heap.size (w2.heap.size + 1) (layAll (l.take k)) ∧ Br wr (w2.heap.size + 1) Aa (layAll (l.take k)).length ca (layAll (l.take k)) ∧ Lw w (w2.heap.size + 1) K kv wv wr) (fun _ _ _ t _ => l.length - (intOf t).toNat)
      case atStart => exact ⟨0, 0, none, [], none, none, 0, 0, by omega, by simp, rfl, rfl, rfl, rfl, ⟨none, 0, 0, HI.out.1, Bs.nil _, .inl rfl⟩, ⟨Bs.nil _, .inl rfl⟩, ⟨World.ownsRow_nil _ _ _ _, World.ownsRow_nil _ _ _ _, fun p hp => (by cases hp), HI.out.2⟩⟩
      case round =>
        obtain ⟨k, ca, Aa, K, KA, WA, kc, wc, hk, hKk, rfl, rfl, rfl, rfl, hO, hA, hL⟩ := hrel
        rcases Nat.lt_or_ge k l.length with hlt | hge
        · obtain ⟨rfl, hb⟩ := HL.out.at_ (by omega)
          have hk' : (k : Int) < (l.length : Int) := by omega
          obtain ⟨⟨ki, n, s⟩, hj⟩ : ∃ a, l[k]? = some a := ⟨_, List.getElem?_eq_getElem hlt⟩
          obtain ⟨hn, c0w, c1w, c2w⟩ := HL.out.get k ki n s hj
          rw [← Nat.add_assoc] at c1w c2w
          have hT := layAll_take hj
          have hlen : (layAll (l.take k)).length ≤ 67108864 := Nat.le_trans (layAll_prefix l k) (Nat.le_trans (layAll_tot l) HT1.out)
          have hlen2 := layB_length ki n s
          have hcnt := tot_count l
          have hlen3 := HT1.out
          obtain ⟨ol, hol⟩ : ∃ z, layAll (l.take k) = z := ⟨_, rfl⟩
          obtain ⟨nl, hnl⟩ : ∃ z, layB ki n s = z := ⟨_, rfl⟩
          rw [hol] at hO hA hlen hT
          rw [hnl] at hT hlen2
          rw [hol]
          have hll : l.length ≤ 67108864 := by omega
          have LA := Lib.hid (fun W h1 h2 => lays_fr_all w2.heap.size (w2.heap.size + 1) ol ki n hn s W h1 h2 (by omega))
          have LD := Lib.hid (fun W => laid_all ki n s hn W)
          have LN := Lib.hid (fun W => lays0_all ki n hn s W)
          rw [hnl] at LA LD
          have H1 := Lib.hid (And.intro c0w (And.intro c1w c2w))
          have hBr := hL.bel
          have d0 := ((bcell hBr).1 b _ hb).trans c0w
          have d1 := ((bcell hBr).1 b _ hb).trans c1w
          have d2 := ((bcell hBr).1 b _ hb).trans c2w
          have HS := Lib.hid (And.intro hO (And.intro hA hL))
          have HT := Lib.hid hT
          have hOz := hO.lt
          clear hO hA hL hT hol hnl hj hn hcnt hlen3 c0w c1w c2w
          go_wp2_with fail
          refine (LA.out _ HS.out.1 hOz).mono ?_
          rintro e w3 ⟨⟨_, rfl⟩, hO3, hU3⟩
          obtain ⟨csO, vO⟩ := HS.out.1.var
          have hA3 := HS.out.2.1.updT vO (by decide) hU3
          have hL3 := HS.out.2.2.upd vO (by omega) hU3
          have d0 := ((bcell hL3.bel).1 b _ hb).trans H1.out.1
          have d1 := ((bcell hL3.bel).1 b _ hb).trans H1.out.2.1
          have d2 := ((bcell hL3.bel).1 b _ hb).trans H1.out.2.2
          have H3 := Lib.hid (And.intro hO3 (And.intro hA3 hL3))
          clear hO3 hA3 hL3 hU3 vO HS
          go_wp2_with fail
          refine (LN.out w3).mono ?_
          rintro e w4 ⟨⟨_, rfl⟩, hb4⟩
          have d0 := ((bcell (H3.out.2.2.keep hb4).bel).1 b _ hb).trans H1.out.1
          have d1 := ((bcell (H3.out.2.2.keep hb4).bel).1 b _ hb).trans H1.out.2.1
          have d2 := ((bcell (H3.out.2.2.keep hb4).bel).1 b _ hb).trans H1.out.2.2
          go_wp2_with fail
          refine (LD.out w4).mono ?_
          rintro e w5 ⟨A5, c5, rfl, hown5, hb5⟩
          have HA5 := Lib.hid (And.intro hown5 hb5)
          clear hown5 hb5
          go_wp2_with fail
          refine (joined_ref Aa A5 ol.length ca nl.length c5 ol nl w5 (((H3.out.2.1.keep hb4).keep HA5.out.2).1) HA5.out.1.bs (by omega)).mono ?_
          rintro e w6 ⟨A6, c6, rfl, hown6, hb6⟩
          have hO6 := ((H3.out.1.keep hb4).keep HA5.out.2).keep hb6
          have hL6 := ((H3.out.2.2.keep hb4).keep HA5.out.2).keep hb6
          have hw56 : w2.heap.size + 1 ≤ w5.heap.size := by
            have h1 := H3.out.1.lt
            have h2 := hb4.size
            have h3 := HA5.out.2.size
            omega
          have hA6 : Br w6 (w2.heap.size + 1) A6 (ol.length + nl.length) c6 (ol ++ nl) := by
            have h := (br_own hown6).from hw56
            rw [List.length_append] at h
            exact h
          have H6 := Lib.hid (And.intro hO6 (And.intro hA6 hL6))
          clear hO6 hA6 hL6 hown6 hb6 hb4 HA5 H3 d0 d1 d2
          have hrel3 : ∀ (ct : Nat) (At : Option Addr) wz, OutFr wz w2.heap.size (w2.heap.size + 1) (ol ++ nl) → Br wz (w2.heap.size + 1) At (ol.length + nl.length) ct (ol ++ nl) →
              (Value.slice At (ol.length + nl.length) ct = .slice At (layAll (l.take (k + 1))).length ct) ∧ OutFr wz w2.heap.size (w2.heap.size + 1) (layAll (l.take (k + 1))) ∧ Br wz (w2.heap.size + 1) At (layAll (l.take (k + 1))).length ct (layAll (l.take (k + 1))) := fun ct At wz h1 h2 => by
            rw [HT.out, List.length_append]
            exact ⟨rfl, h1, h2⟩
          have HR3 := Lib.hid hrel3
          clear hrel3 LA LD LN H1
          have hways : (k < q.length ∧ q[k]? = some true) ∨ (k < q.length ∧ q[k]? = some false) ∨ q.length ≤ k := by
            rcases Nat.lt_or_ge k q.length with h | h
            · rw [List.getElem?_eq_getElem h]
              cases hb : q[k]
              · exact .inr (.inl ⟨h, rfl⟩)
              · exact .inl ⟨h, rfl⟩
            · exact .inr (.inr h)
          have hqn := HQ.out.2.2
          rcases hways with ⟨hkq, hqk⟩ | ⟨hkq, hqk⟩ | hkq
          · obtain ⟨rfl, hb3⟩ := HQ.out.1 (by omega)
            have q6 : w6.cell? ⟨b3, off3 + k, none⟩ = some (.bool true) := ((bcell H6.out.2.2.bel).1 b3 _ hb3).trans (HQ.out.2.1 k true hqk)
            have hkq' : (k : Int) < (q.length : Int) := by omega
            clear hqk
            go_wp2_with fail
            refine (bytes_any w2.heap.size (ol ++ nl) w6 H6.out.1.at (by rw [List.length_append]; omega)).mono ?_
            rintro e w7 ⟨A7, c7, rfl, hfr7, hb7⟩
            have hO7 := H6.out.1.keep hb7
            have hA7 := H6.out.2.1.keep hb7
            have hL7 := H6.out.2.2.keep hb7
            have hz6 := H6.out.1.lt
            have hz7 : w2.heap.size + 1 ≤ w7.heap.size := hO7.lt
            have hN7 : Br w7 (w2.heap.size + 1) A7 (ol ++ nl).length c7 (ol ++ nl) := (br_fresh hfr7).from hz6
            obtain ⟨n7, hn7⟩ : ∃ z, (ol ++ nl).length = z := ⟨_, rfl⟩
            rw [hn7] at hN7
            rw [hn7]
            have H7 := Lib.hid (And.intro hO7 (And.intro hA7 (And.intro hL7 hN7)))
            clear hO7 hA7 hL7 hN7 hfr7 hb7 hz6 q6 hn7
            go_wp2_with (first
              | (at_builtin; refine wpList_push rfl (.tmp 62) (.tmp 64) 37 rfl elt23 (w2.heap.size + 1) KA K.length kc (K.map (·.1)) rfl H7.out.2.2.1.kept [_] rfl rfl (one_cell rfl) (le_maxLen (by omega)) (by omega) (by omega) ?_; intro A8 c8 w8 hown8 hg8; have hp8 := H7.out.2.2.1.push1 hg8 (by omega); have hO8 := outfr_push H7.out.1 H7.out.2.2.1.kept (by decide) (by decide) hg8; have hA8 := H7.out.2.1.push H7.out.2.2.1.kept (by decide) hg8; have hN8 := H7.out.2.2.2.push H7.out.2.2.1.kept (by decide) hg8; have hcv8 := bs_str hA8.1; have H8 := Lib.hid (And.intro hp8 (And.intro hO8 (And.intro hA8 (And.intro hN8 hown8)))); have hz8 := hg8.size; clear hp8 hO8 hA8 hN8 hown8)
              | (at_builtin; refine wpList_push rfl (.tmp 66) (.tmp 69) 38 rfl eltS (w2.heap.size + 1) WA K.length wc (K.map fun p => .string ⟨p.2.toArray⟩) rfl H8.out.1.1 [_] rfl rfl (one_cell rfl) (le_maxLen (by omega)) (by omega) (by omega) ?_; intro A9 c9 w9 hown9 hg9; have hO9 := outfr_push H8.out.2.1 H8.out.1.1 (by decide) (by decide) hg9; have hA9 := H8.out.2.2.1.push H8.out.1.1 (by decide) hg9; have hN9 := H8.out.2.2.2.1.push H8.out.1.1 (by decide) hg9; have hk9 := own_push H8.out.2.2.2.2 H8.out.1.1 (by decide) hg9; have hb9 := below_push H8.out.1.2.2 H8.out.1.1 (by omega) (by omega) hg9; have he9 : ∀ p ∈ K, ∃ A n c, p.1 = .slice A n c ∧ Br w9 (w2.heap.size + 1) A n c p.2 := fun p hp => (by obtain ⟨A, n, c, e, hr⟩ := H8.out.1.2.1 p hp; exact ⟨A, n, c, e, hr.push H8.out.1.1 (by decide) hg9⟩); have H9 := Lib.hid (And.intro hO9 (And.intro hA9 (And.intro hN9 (And.intro hk9 (And.intro hb9 (And.intro he9 hown9)))))); clear hO9 hA9 hN9 hk9 hb9 he9 hown9))
            go_roundw
            case rel =>
              obtain ⟨r1, r2, r3⟩ := HR3.out c6 A6 w9 H9.out.1 H9.out.2.1
              have hKl : (K ++ [(Value.slice A7 n7 c7, ol ++ nl)]).length = K.length + 1 := by simp
              refine ⟨k + 1, c6, A6, K ++ [(.slice A7 n7 c7, ol ++ nl)], A8, A9, c8, c9, by omega, by omega, by go_num, r1, by rw [hKl], by rw [hKl], r2, r3, ⟨?_, ?_, ?_, H9.out.2.2.2.2.1⟩⟩
              · rw [hKl, List.map_append]
                exact H9.out.2.2.2.1
              · rw [hKl, List.map_append]
                exact H9.out.2.2.2.2.2.2
              · intro p hp
                rcases List.mem_append.1 hp with hp | hp
                · exact H9.out.2.2.2.2.2.1 p hp
                · obtain rfl := List.mem_singleton.1 hp
                  exact ⟨_, _, _, rfl, H9.out.2.2.1⟩
            case measure => simp [intOf]; omega
          · obtain ⟨rfl, hb3⟩ := HQ.out.1 (by omega)
            have q6 : w6.cell? ⟨b3, off3 + k, none⟩ = some (.bool false) := ((bcell H6.out.2.2.bel).1 b3 _ hb3).trans (HQ.out.2.1 k false hqk)
            have hkq' : (k : Int) < (q.length : Int) := by omega
            clear hqk
            go_wp2_with fail
            go_roundw
            case rel =>
              obtain ⟨r1, r2, r3⟩ := HR3.out c6 A6 w6 H6.out.1 H6.out.2.1
              exact ⟨k + 1, c6, A6, K, KA, WA, kc, wc, by omega, by omega, by go_num, r1, rfl, rfl, r2, r3, H6.out.2.2⟩
            case measure => simp [intOf]; omega
          · have hkq' : ¬ (k : Int) < (q.length : Int) := by omega
            go_wp2_with fail
            go_roundw
            case rel =>
              obtain ⟨r1, r2, r3⟩ := HR3.out c6 A6 w6 H6.out.1 H6.out.2.1
              exact ⟨k + 1, c6, A6, K, KA, WA, kc, wc, by omega, by omega, by go_num, r1, rfl, rfl, r2, r3, H6.out.2.2⟩
            case measure => simp [intOf]; omega
        · obtain rfl : k = l.length := by omega
          rw [List.take_length] at hO hA
          rw [List.take_length]
          have hk' : ¬ (l.length : Int) < (l.length : Int) := by omega
          have hcnt := tot_count l
          have hcnt2 := tot_count m
          have hlen3 := HT1.out
          have hlen4 := HT2.out
          have halen : (layAll l).length ≤ 67108864 := Nat.le_trans (layAll_tot l) HT1.out
          obtain ⟨al, hal⟩ : ∃ z, layAll l = z := ⟨_, rfl⟩
          rw [hal] at hO hA halen
          rw [hal]
          have hll : l.length ≤ 67108864 := by omega
          have hml : m.length ≤ 67108864 := by omega
          have HA1 := Lib.hid (And.intro hA hL)
          obtain ⟨AO, nO, cO, vO, hsO, hfO⟩ := hO
          have o0 : wr.cell? ⟨w2.heap.size, 0, none⟩ = some (.slice AO nO cO) := vO.cell 0
          have hOz := vO.lt
          have HO1 := Lib.hid (And.intro vO (And.intro hsO hfO))
          have HKk := Lib.hid hKk
          clear hA hL hcnt hcnt2 hlen3 hlen4 hal vO hsO hfO hKk
          go_wp2_with fail
          refine wp_gen (fun W2 hW2 => ?_)
          have vP : Var W2 wr.heap.size 35 #[.slice AO nO cO] := by rw [hW2]; exact Var.new _ _ _
          have hbW2 : Below wr.heap.size wr W2 := by rw [hW2]; go_grown
          clear hW2 o0
          have HP0 : Hid (OutFr W2 wr.heap.size (w2.heap.size + 1) al) := Lib.hid ⟨AO, nO, cO, vP, HO1.out.2.1.below hbW2, HO1.out.2.2.keep hbW2⟩
          have HO0 : Hid (OutFr W2 w2.heap.size (w2.heap.size + 1) al) := Lib.hid ⟨AO, nO, cO, HO1.out.1.keep hbW2, HO1.out.2.1.below hbW2, HO1.out.2.2.keep hbW2⟩
          have HA0 := Lib.hid (And.intro (HA1.out.1.keep hbW2) (HA1.out.2.keep hbW2))
          obtain ⟨P, hP⟩ : ∃ z, wr.heap.size = z := ⟨_, rfl⟩
          rw [hP] at HP0 hOz
          rw [hP]
          clear vP hbW2 HO1 HA1 hP
          go_loopw [14, 15] (fun tw t wr => ∃ (k ct : Nat) (At : Option Addr), k ≤ m.length ∧ t = .int .i64 (k : Int) ∧ tw = .slice At (layAll (m.take k)).length ct ∧ OutFr wr P (w2.heap.size + 1) (al ++ layAll (m.take k)) ∧ OutFr wr w2.heap.size (w2.heap.size + 1) (al ++ cnt k) ∧
            Br wr (w2.heap.size + 1) At (layAll (m.take k)).length ct (layAll (m.take k)) ∧ Br wr (w2.heap.size + 1) Aa al.length ca al ∧ Lw w (w2.heap.size + 1) K (.slice KA K.length kc) (.slice WA K.length wc) wr) (fun _ t _ => m.length - (intOf t).toNat)
          case atStart => exact ⟨0, 0, none, by omega, rfl, rfl, by simpa [layAll] using HP0.out, by simpa [cnt] using HO0.out, ⟨Bs.nil _, .inl rfl⟩, HA0.out.1, HA0.out.2⟩
          case round =>
            obtain ⟨k, ct, At, hk, rfl, rfl, hPr, hOr, hT, hA, hL⟩ := hrel
            rcases Nat.lt_or_ge k m.length with hlt | hge
            · obtain ⟨rfl, hb⟩ := HM.out.at_ (by omega)
              have hk' : (k : Int) < (m.length : Int) := by omega
              obtain ⟨⟨ki, n, s⟩, hj⟩ : ∃ a, m[k]? = some a := ⟨_, List.getElem?_eq_getElem hlt⟩
              obtain ⟨hn, c0w, c1w, c2w⟩ := HM.out.get k ki n s hj
              rw [← Nat.add_assoc] at c1w c2w
              have hTk := layAll_take hj
              have hlen : (layAll (m.take k)).length ≤ 67108864 := Nat.le_trans (layAll_prefix m k) (Nat.le_trans (layAll_tot m) HT2.out)
              have hlen2 := layB_length ki n s
              obtain ⟨ol, hol⟩ : ∃ z, layAll (m.take k) = z := ⟨_, rfl⟩
              obtain ⟨nl, hnl⟩ : ∃ z, layB ki n s = z := ⟨_, rfl⟩
              rw [hol] at hPr hT hlen hTk
              rw [hnl] at hTk hlen2
              rw [hol]
              have hclen : (cnt k).length = k := by simp [cnt]
              have LP := Lib.hid (fun W h1 h2 => lays_fr_all P (w2.heap.size + 1) (al ++ ol) ki n hn s W h1 h2 (by rw [List.length_append]; omega))
              have LO := Lib.hid (fun W h1 h2 => lays_fr_all w2.heap.size (w2.heap.size + 1) (al ++ cnt k) 2 k (by omega) ⟨#[]⟩ W h1 h2 (by rw [List.length_append, hclen]; omega))
              have LD := Lib.hid (fun W => laid_all ki n s hn W)
              rw [hnl] at LP LD
              have H1 := Lib.hid (And.intro c0w (And.intro c1w c2w))
              have hBr := hL.bel
              have d0 := ((bcell hBr).1 b2 _ hb).trans c0w
              have d1 := ((bcell hBr).1 b2 _ hb).trans c1w
              have d2 := ((bcell hBr).1 b2 _ hb).trans c2w
              have HS := Lib.hid (And.intro hPr (And.intro hOr (And.intro hT (And.intro hA hL))))
              have HTk := Lib.hid hTk
              have hOzr := hOr.lt
              clear hPr hOr hT hA hL hTk hol hnl hj hn c0w c1w c2w hclen
              go_wp2_with fail
              refine (LP.out _ HS.out.1 hOzr).mono ?_
              rintro e w3 ⟨⟨_, rfl⟩, hP3, hU3⟩
              obtain ⟨csP, vP⟩ := HS.out.1.var
              have hO3 := outfr_updT HS.out.2.1 vP (by omega) (by decide) hU3
              have hT3 := HS.out.2.2.1.updT vP (by decide) hU3
              have hA3 := HS.out.2.2.2.1.updT vP (by decide) hU3
              have hL3 := HS.out.2.2.2.2.upd vP (by omega) hU3
              have d0 := ((bcell hL3.bel).1 b2 _ hb).trans H1.out.1
              have d1 := ((bcell hL3.bel).1 b2 _ hb).trans H1.out.2.1
              have d2 := ((bcell hL3.bel).1 b2 _ hb).trans H1.out.2.2
              have H3 := Lib.hid (And.intro hP3 (And.intro hO3 (And.intro hT3 (And.intro hA3 hL3))))
              clear hP3 hO3 hT3 hA3 hL3 hU3 vP HS
              go_wp2_with fail
              refine (LD.out w3).mono ?_
              rintro e w5 ⟨A5, c5, rfl, hown5, hb5⟩
              have HA5 := Lib.hid (And.intro hown5 hb5)
              clear hown5 hb5
              go_wp2_with fail
              refine (joined_ref At A5 ol.length ct nl.length c5 ol nl w5 ((H3.out.2.2.1.keep HA5.out.2).1) HA5.out.1.bs (by omega)).mono ?_
              rintro e w6 ⟨A6, c6, rfl, hown6, hb6⟩
              have hw56 : w2.heap.size + 1 ≤ w5.heap.size := by
                have h1 := H3.out.2.1.lt
                have h3 := HA5.out.2.size
                omega
              have hT6 : Br w6 (w2.heap.size + 1) A6 (ol.length + nl.length) c6 (ol ++ nl) := by
                have h := (br_own hown6).from hw56
                rw [List.length_append] at h
                exact h
              have hP6 := (H3.out.1.keep HA5.out.2).keep hb6
              have hO6 := (H3.out.2.1.keep HA5.out.2).keep hb6
              have hA6 := (H3.out.2.2.2.1.keep HA5.out.2).keep hb6
              have hL6 := (H3.out.2.2.2.2.keep HA5.out.2).keep hb6
              have H6 := Lib.hid (And.intro hP6 (And.intro hO6 (And.intro hT6 (And.intro hA6 hL6))))
              have hw6 : w2.heap.size + 1 ≤ w6.heap.size := hO6.lt
              clear hP6 hO6 hT6 hA6 hL6 hown6 hb6 HA5 H3 d0 d1 d2
              go_wp2_with fail
              refine (LO.out w6 H6.out.2.1 hw6).mono ?_
              rintro e w7 ⟨⟨_, rfl⟩, hO7, hU7⟩
              obtain ⟨csO, vO⟩ := H6.out.2.1.var
              have hP7 := outfr_updT H6.out.1 vO (by omega) (by decide) hU7
              have hT7 := H6.out.2.2.1.updT vO (by decide) hU7
              have hA7 := H6.out.2.2.2.1.updT vO (by decide) hU7
              have hL7 := H6.out.2.2.2.2.upd vO (by omega) hU7
              have H7 := Lib.hid (And.intro hP7 (And.intro hO7 (And.intro hT7 (And.intro hA7 hL7))))
              clear hP7 hO7 hT7 hA7 hL7 hU7 vO H6
              go_wp2_with fail
              go_roundw
              case rel =>
                refine ⟨k + 1, c6, A6, by omega, by go_num, by rw [HTk.out, List.length_append], ?_, ?_, ?_, H7.out.2.2.2.1, H7.out.2.2.2.2⟩
                · rw [HTk.out, ← List.append_assoc]
                  exact H7.out.1
                · rw [cnt_succ, ← List.append_assoc]
                  exact H7.out.2.1
                · rw [HTk.out, List.length_append]
                  exact H7.out.2.2.1
              case measure => simp [intOf]; omega
            · obtain rfl : k = m.length := by omega
              obtain ⟨wk, rfl⟩ : ∃ z, z = wr := ⟨_, rfl⟩
              rw [List.take_length] at hPr hT
              rw [List.take_length]
              have hk' : ¬ (m.length : Int) < (m.length : Int) := by omega
              have htlen : (layAll m).length ≤ 67108864 := Nat.le_trans (layAll_tot m) HT2.out
              obtain ⟨tl, htl⟩ : ∃ z, layAll m = z := ⟨_, rfl⟩
              rw [htl] at hPr hT htlen
              rw [htl]
              obtain ⟨M, hM⟩ : ∃ z, m.length = z := ⟨_, rfl⟩
              rw [hM] at hOr hk' hml
              rw [hM]
              obtain ⟨bl, hbl⟩ : ∃ z, al ++ cnt M = z := ⟨_, rfl⟩
              have hbln : bl.length = al.length + M := by rw [← hbl, List.length_append, cnt_length]
              rw [hbl] at hOr
              have S := Lib.hid (And.intro hPr (And.intro hOr (And.intro hT (And.intro hA hL))))
              have HBL := Lib.hid (And.intro hbl hbln)
              have hzr := hOr.lt
              have FL : Hid (∀ W, Below wk.heap.size wk W → Calls Try.prog 19 #[.pointer (some ⟨w2.heap.size, 0, none⟩)] W fun e w' => e = .returned (.int .i64 ((al.length : Int) + (M : Int))) ∧ Below W.heap.size W w') := Lib.hid (fun W h => by
                have h := len_any w2.heap.size bl W (hOr.keep h).at
                rwa [hbln, show ((al.length + M : Nat) : Int) = (al.length : Int) + (M : Int) by omega] at h)
              have FP : Hid (∀ W, Below wk.heap.size wk W → Calls Try.prog 19 #[.pointer (some ⟨P, 0, none⟩)] W fun e w' => e = .returned (.int .i64 ((al.length : Int) + (tl.length : Int))) ∧ Below W.heap.size W w') := Lib.hid (fun W h => by
                have h := len_any P (al ++ tl) W (hPr.keep h).at
                rwa [List.length_append, show ((al.length + tl.length : Nat) : Int) = (al.length : Int) + (tl.length : Int) by omega] at h)
              have FB : Hid (∀ W, Below wk.heap.size wk W → Calls Try.prog 18 #[.pointer (some ⟨P, 0, none⟩)] W fun e w' => ∃ A' c', e = .returned (.slice A' (al.length + tl.length) c') ∧ Fresh W w' A' (al.length + tl.length) c' (al ++ tl) ∧ Below W.heap.size W w') := Lib.hid (fun W h => by
                have h := bytes_any P (al ++ tl) W (hPr.keep h).at (by rw [List.length_append]; omega)
                rwa [List.length_append] at h)
              have FO : Hid (∀ W, Below wk.heap.size wk W → Calls Try.prog 18 #[.pointer (some ⟨w2.heap.size, 0, none⟩)] W fun e w' => ∃ A' c', e = .returned (.slice A' (al.length + M) c') ∧ Fresh W w' A' (al.length + M) c' bl ∧ (al.length + M = 0 → c' = 0) ∧ Below W.heap.size W w') := Lib.hid (fun W h => by
                rcases Nat.eq_zero_or_pos (al.length + M) with h0 | h0
                · have hb0 : bl = [] := List.eq_nil_of_length_eq_zero (by omega)
                  rw [hb0] at hOr
                  rw [h0, hb0]
                  exact (bytes_zero w2.heap.size W (hOr.keep h).at).mono fun e w' ⟨⟨A', he⟩, hb⟩ => ⟨A', 0, he, ⟨Bs.empty _ _ (Nat.zero_le _), fun h => absurd h (by omega)⟩, fun _ => rfl, hb⟩
                · have h := bytes_any w2.heap.size bl W (hOr.keep h).at (by omega)
                  rw [hbln] at h
                  exact h.mono fun e w' ⟨A', c', he, hf, hb⟩ => ⟨A', c', he, hf, fun h => absurd h (by omega), hb⟩)
              clear hPr hOr hT hA hL htl hM hbl hbln
              go_wp2_with fail
              refine (FO.out wk (Below.refl _ _)).mono ?_
              rintro e v1 ⟨B1, d1, rfl, hfr1, hd1, hb1⟩
              have HF1 := Lib.hid (And.intro hfr1 hd1)
              clear hfr1 hd1
              go_wp2_with fail
              refine (FB.out v1 hb1).mono ?_
              rintro e v2 ⟨B2, d2, rfl, hfr2, hb2'⟩
              have hB2 : Below wk.heap.size wk v2 := hb1.trans (hb2'.mono hb1.size)
              have HF2 := Lib.hid (And.intro hfr2.1 hb2')
              clear hfr2 hb2'
              go_wp2_with fail
              refine (len_none v2).mono ?_
              rintro e v3 ⟨rfl, hb3⟩
              go_wp2_with fail
              refine (bytes_none v3).mono ?_
              rintro e v4 ⟨rfl, hb4⟩
              have hB4 : Below wk.heap.size wk v4 := (hB2.trans (hb3.mono hB2.size)).trans (hb4.mono (Nat.le_trans hB2.size hb3.size))
              go_wp2_with fail
              refine (FL.out v4 hB4).mono ?_
              rintro e v5 ⟨rfl, hb5⟩
              have hB5 := hB4.trans (hb5.mono hB4.size)
              go_wp2_with fail
              refine (FP.out v5 hB5).mono ?_
              rintro e v6 ⟨rfl, hb6⟩
              have hB6 := hB5.trans (hb6.mono hB5.size)
              have hcv1 := bs_str ((((HF2.out.1.below hb3).below hb4).below hb5).below hb6)
              have hcv2 := bs_str (S.out.2.2.2.1.keep hB6).1
              have hcv3 := bs_str (S.out.2.2.1.keep hB6).1
              have hadd := run_string_add_sum (P := Try.prog) v6 ⟨al.toArray⟩ ⟨tl.toArray⟩ (by have h1 : (⟨al.toArray⟩ : ByteArray).size = al.length := rfl; have h2 : (⟨tl.toArray⟩ : ByteArray).size = tl.length := rfl; omega)
              rw [bytes_append] at hadd
              go_wp2_with fail
              refine (FL.out v6 hB6).mono ?_
              rintro e v7 ⟨rfl, hb7⟩
              have hB7 := hB6.trans (hb7.mono hB6.size)
              clear hcv1 hcv2 hcv3 hadd
              have hb17 : Below v1.heap.size v1 v7 := (((((HF2.out.2.trans (hb3.mono HF2.out.2.size)).trans (hb4.mono (Nat.le_trans HF2.out.2.size hb3.size))).trans (hb5.mono (by have := HF2.out.2.size; have := hb3.size; have := hb4.size; omega))).trans (hb6.mono (by have := HF2.out.2.size; have := hb3.size; have := hb4.size; have := hb5.size; omega)))).trans (hb7.mono (by have := HF2.out.2.size; have := hb3.size; have := hb4.size; have := hb5.size; have := hb6.size; omega))
              have hF7 : Fresh wk v7 B1 (al.length + M) d1 bl := ⟨HF1.out.1.1.below hb17, fun h => own_keep (HF1.out.1.2 h) hb17⟩
              have HF7 := Lib.hid (And.intro hF7 (And.intro HF1.out.2 hB7))
              clear hF7 hb17 HF2 HF1 hb1 hb3 hb4 hb5 hb6 hb7 hB2 hB4 hB5 hB6 hB7
              have hqn : K.length ≤ 67108864 := Nat.le_trans HKk.out hll
              go_wp2_with fail
              go_loopw [18] (fun t wr => ∃ k : Nat, k ≤ al.length + M ∧ t = .int .i64 (k : Int) ∧ Brow B1 (al.length + M) d1 wk.heap.size bl k wr ∧ Below wk.heap.size wk wr) (fun t _ => al.length + M - (intOf t).toNat)
              case atStart => exact ⟨0, by omega, rfl, brow_start HF7.out.1, HF7.out.2.2⟩
              case round =>
                obtain ⟨k, hk, rfl, hR, hB⟩ := hrel
                rcases Nat.lt_or_ge k (al.length + M) with hlt | hge
                · obtain ⟨g, cs, rfl, hg, hV, hsz, hnd, hd, hat⟩ : ∃ g cs, B1 = some ⟨g, 0, none⟩ ∧ wk.heap.size ≤ g ∧ Var wr g 5 cs ∧ cs.size = d1 ∧ al.length + M ≤ d1 ∧ d1 ≤ maxLen ∧ ∀ (j : Nat) x, k ≤ j → bl[j]? = some x → cs[j]? = some (B8 x) := by
                    rcases hR with h | h
                    · omega
                    · exact h
                  have hkI : (k : Int) < (al.length : Int) + (M : Int) := by omega
                  have hbln := HBL.out.2
                  obtain ⟨x, hx⟩ : ∃ x, bl[k]? = some x := ⟨_, List.getElem?_eq_getElem (by omega)⟩
                  have ck : wr.cell? ⟨g, k, none⟩ = some (B8 x) := (hV.cell k).trans (hat k x (Nat.le_refl _) hx)
                  have hfk := hV.free k
                  have hgz := hV.lt
                  unfold B8 at ck
                  obtain ⟨xv, hxv⟩ : ∃ z : Nat, x.toNat = z := ⟨_, rfl⟩
                  have hx8 : xv < 256 := by rw [← hxv]; exact UInt8.toNat_lt _
                  rw [hxv] at ck
                  obtain ⟨y, hy⟩ : ∃ z, IntKind.u8.wrap ((xv : Int) + 1) = z := ⟨_, rfl⟩
                  rcases Nat.lt_or_ge k al.length with hka | hka
                  · have hxa : al[k]? = some x := by rw [← HBL.out.1, List.getElem?_append_left hka] at hx; exact hx
                    obtain ⟨ga, oa, rfl, hga, hca⟩ := (S.out.2.2.2.1.keep hB).1.pos (by omega)
                    have cak := hca k x hxa
                    unfold B8 at cak
                    rw [hxv] at cak
                    have hkaI : (k : Int) < (al.length : Int) := by omega
                    have hde1 : decide ((al.length : Int) ≤ (k : Int)) = false := by simp; omega
                    have hde2 : decide (al.length ≤ k) = false := by simp; omega
                    have hde3 : decide ((k : Int) < (al.length : Int)) = true := by simp; omega
                    have hde4 : decide (k < al.length) = true := by simp; omega
                    have HX := Lib.hid (And.intro hV (And.intro hsz (And.intro hnd (And.intro hd (And.intro hat hB)))))
                    clear hca hxa hx hV hsz hd hat hbln hxv
                    go_wp2_with fail
                    have hq_wr := @wd_cell wr
                    refine wp_region_wd (by kernel_rfl) (by kernel_rfl) ?_
                    try simp only [List.append_eq, List.cons_append, List.nil_append]
                    repeat (go_big_quiet_step (fail))
                    refine wpQuiet_nil ?_
                    rintro w8 ⟨⟨wx, hb_w8⟩, hwx⟩
                    obtain rfl : w8 = wx := hwx
                    clear hq_wr
                    have hz_w8 := hb_w8.size
                    obtain ⟨hc_w8, hf_w8⟩ := bcell hb_w8
                    have hs_w8_0 : g < w8.heap.size := Nat.lt_of_lt_of_le (by assumption) hb_w8.size
                    have hs_w8_1 : ga < w8.heap.size := Nat.lt_of_lt_of_le (by assumption) hb_w8.size
                    have hV8 := HX.out.1.keep hb_w8
                    have ck8 := (hc_w8 g k hgz).trans ck
                    have hz8 := hV8.lt
                    go_wp2_with fail
                    go_roundw
                    case rel =>
                      refine ⟨k + 1, by omega, by go_num, .inr ⟨g, cs.setIfInBounds k (.int .u8 y), rfl, hg, hV8.store k _, by simp [HX.out.2.1], HX.out.2.2.1, HX.out.2.2.2.1, fun j x hj hx => ?_⟩, (HX.out.2.2.2.2.2.trans (hb_w8.mono HX.out.2.2.2.2.2.size)).setCell (p := ⟨g, k, none⟩) hg _⟩
                      rw [Array.getElem?_setIfInBounds, if_neg (by omega)]
                      exact HX.out.2.2.2.2.1 j x (by omega) hx
                    case measure => simp [intOf]; omega
                  · have hkaI : ¬ (k : Int) < (al.length : Int) := by omega
                    have hkaI2 : (al.length : Int) ≤ (k : Int) := by omega
                    have hde1 : decide ((al.length : Int) ≤ (k : Int)) = true := by simp; omega
                    have hde2 : decide (al.length ≤ k) = true := by simp; omega
                    have hde3 : decide ((k : Int) < (al.length : Int)) = false := by simp; omega
                    have hde4 : decide (k < al.length) = false := by simp; omega
                    have hxa : x = by8 (k - al.length) 0 := by
                      rw [← HBL.out.1, List.getElem?_append_right hka] at hx
                      unfold cnt at hx
                      rw [List.getElem?_map, List.getElem?_range (by omega)] at hx
                      injection hx with hx
                      exact hx.symm
                    have hcv : IntKind.u8.wrap ((k : Int) - (al.length : Int)) = (xv : Int) := by
                      have h := by8_nat (k - al.length) 0
                      rw [← hxa, hxv] at h
                      rw [IntKind.wrap_u8]
                      simp at h
                      omega
                    have hcv2 : ((k : Int) - (al.length : Int)) % 256 = (xv : Int) := by rw [IntKind.wrap_u8] at hcv; exact hcv
                    have HX := Lib.hid (And.intro hV (And.intro hsz (And.intro hnd (And.intro hd (And.intro hat hB)))))
                    clear hxa hx hV hsz hd hat hbln hxv
                    go_wp2_with fail
                    have hq_wr := @wd_cell wr
                    refine wp_region_wd (by kernel_rfl) (by kernel_rfl) ?_
                    try simp only [List.append_eq, List.cons_append, List.nil_append]
                    repeat (go_big_quiet_step (fail))
                    refine wpQuiet_nil ?_
                    rintro w8 ⟨⟨wx, hb_w8⟩, hwx⟩
                    obtain rfl : w8 = wx := hwx
                    clear hq_wr
                    have hz_w8 := hb_w8.size
                    obtain ⟨hc_w8, hf_w8⟩ := bcell hb_w8
                    have hs_w8_0 : g < w8.heap.size := Nat.lt_of_lt_of_le (by assumption) hb_w8.size
                    have hV8 := HX.out.1.keep hb_w8
                    have ck8 := (hc_w8 g k hgz).trans ck
                    have hz8 := hV8.lt
                    go_wp2_with fail
                    go_roundw
                    case rel =>
                      refine ⟨k + 1, by omega, by go_num, .inr ⟨g, cs.setIfInBounds k (.int .u8 y), rfl, hg, hV8.store k _, by simp [HX.out.2.1], HX.out.2.2.1, HX.out.2.2.2.1, fun j x hj hx => ?_⟩, (HX.out.2.2.2.2.2.trans (hb_w8.mono HX.out.2.2.2.2.2.size)).setCell (p := ⟨g, k, none⟩) hg _⟩
                      rw [Array.getElem?_setIfInBounds, if_neg (by omega)]
                      exact HX.out.2.2.2.2.1 j x (by omega) hx
                    case measure => simp [intOf]; omega
                · have hkI : ¬ (k : Int) < (al.length : Int) + (M : Int) := by omega
                  have hst : ∃ xs, wr.ownsRow wk.heap.size 5 1 (.slice B1 (al.length + M) d1) (al.length + M) xs ∨ (al.length + M = 0 ∧ d1 = 0) := by
                    rcases hR with h | ⟨g, cs, h1, h2, h3, h4, h5, h6, h7⟩
                    · exact ⟨[], .inr ⟨h, HF7.out.2.1 h⟩⟩
                    · exact ⟨cs.toList.take ((al.length + M) * 1), .inl ⟨by rw [List.length_take]; simp; omega, .inr ⟨g, d1, cs, by rw [h1], h2, h3, h5, h6, by omega, rfl⟩⟩⟩
                  have HST := Lib.hid (And.intro hst hB)
                  clear hst hB hR
                  go_wp2_with fail
                  go_loopw [16, 19] (fun bv t wr => ∃ (k nb cb : Nat) (Bb : Option Addr) (xs : List Value), k ≤ 40 ∧ t = .int .i64 (k : Int) ∧ bv = .slice Bb nb cb ∧ nb ≤ al.length + M + k ∧ (wr.ownsRow wk.heap.size 5 1 (.slice Bb nb cb) nb xs ∨ (nb = 0 ∧ cb = 0)) ∧ Below wk.heap.size wk wr) (fun _ t _ => 40 - (intOf t).toNat)
                  case atStart =>
                    obtain ⟨⟨xs, h1⟩, h2⟩ := HST.out
                    exact ⟨0, _, _, _, xs, by omega, rfl, rfl, by omega, h1, h2⟩
                  case round =>
                    obtain ⟨k, nb, cb, Bb, xs, hk, rfl, rfl, hnb, hown, hB⟩ := hrel
                    have hszx := hB.size
                    rcases Nat.lt_or_ge k 40 with hlt | hge
                    · have hkI : (k : Int) < 40 := by omega
                      rcases hown with hown | ⟨rfl, rfl⟩
                      · go_wp2_with (at_builtin; refine wpList_push rfl (.tmp 190) (.tmp 191) 23 rfl elt8 wk.heap.size Bb nb cb xs rfl hown [_] rfl rfl (one_cell rfl) (le_maxLen (by omega)) (by omega) (by omega) ?_; intro A' c' w' hown' hg)
                        go_roundw
                        case rel => exact ⟨k + 1, nb + 1, c', A', _, by omega, by go_num, rfl, by omega, .inl hown', below_push hB hown (Nat.le_refl _) hszx hg⟩
                        case measure => simp [intOf]; omega
                      · have hbx : Bs (wr.alloc (.cells #[.int .u8 238] 5)) (some ⟨wr.heap.size, 0, none⟩) 1 1 [238] := ⟨rfl, Nat.le_refl _, le_maxLen (by omega), .inr ⟨wr.heap.size, 0, rfl, by simp, fun j x hj => by
                          rw [(Var.new wr 5 #[.int .u8 238]).cell, Nat.zero_add]
                          match j, hj with
                          | 0, hj => simp at hj; subst hj; rfl
                          | j + 1, hj => simp at hj⟩⟩
                        go_wp2_with (at_builtin; refine wpList_join rfl (.tmp 190) (.tmp 191) rfl rfl rfl (Bs.empty _ _ (le_maxLen (by omega))) hbx (by omega) ?_; intro A' c' w' hs' hb' how'; have hO' := own_mono (how' (by omega)) (show wk.heap.size ≤ _ by simp; omega); have hB' : Below wk.heap.size wk w' := (Below.trans hB (show Below wk.heap.size wr (wr.alloc (.cells #[.int .u8 238] 5)) from (Below.refl _ _).alloc hszx _)).trans (hb'.mono (by simp; omega)))
                        go_roundw
                        case rel => exact ⟨k + 1, 0 + 1, c', A', _, by omega, by go_num, by first | rfl | simp, by omega, .inl hO', hB'⟩
                        case measure => simp [intOf]; omega
                    · have hkI : ¬ (k : Int) < 40 := by omega
                      have HB4 := Lib.hid hB
                      clear hown hB
                      go_wp2_with fail
                      go_loopw [20] (fun t wr => ∃ k : Nat, k ≤ K.length ∧ t = .int .i64 (k : Int) ∧ Below wk.heap.size wk wr) (fun t _ => K.length - (intOf t).toNat)
                      case atStart => exact ⟨0, by omega, rfl, HB4.out⟩
                      case round =>
                        obtain ⟨k, hk, rfl, hB⟩ := hrel
                        rcases Nat.lt_or_ge k K.length with hlt | hge
                        · have hkI : (k : Int) < (K.length : Int) := by omega
                          have hLr := S.out.2.2.2.2.keep hB
                          obtain ⟨p, hp⟩ : ∃ p, K[k]? = some p := ⟨_, List.getElem?_eq_getElem hlt⟩
                          obtain ⟨An, nn, cn, hpv, hbr⟩ := hLr.each p (List.mem_of_getElem? hp)
                          obtain ⟨g1, rfl, hg1, k1⟩ := own_cell hLr.kept (j := k) (u := .slice An nn cn) (by rw [List.getElem?_map, hp]; simp [hpv])
                          obtain ⟨g2, rfl, hg2, k2⟩ := own_cell hLr.want (j := k) (u := .string ⟨p.2.toArray⟩) (by rw [List.getElem?_map, hp]; rfl)
                          have hcv : ∀ x : Wd wr, (convert 23 9 (.slice An nn cn)).run Try.prog x.w = .ok (.string ⟨p.2.toArray⟩) x.w := fun x => bs_str (hbr.keep x.h).1
                          have HX := Lib.hid hB
                          clear hLr hpv hbr hp hB
                          go_wp2_with fail
                          have hq_wr := @wd_cell wr
                          refine wp_region_wd (by kernel_rfl) (by kernel_rfl) ?_
                          repeat (go_big_quiet_step (fail))
                          refine wpQuiet_nil ?_
                          rintro w8 ⟨⟨wx, hb_w8⟩, hwx⟩
                          obtain rfl : w8 = wx := hwx
                          clear hq_wr
                          have hz_w8 := hb_w8.size
                          obtain ⟨hc_w8, hf_w8⟩ := bcell hb_w8
                          have hs_w8_0 : g1 < w8.heap.size := Nat.lt_of_lt_of_le (by assumption) hb_w8.size
                          have hs_w8_1 : g2 < w8.heap.size := Nat.lt_of_lt_of_le (by assumption) hb_w8.size
                          go_wp2_with fail
                          go_roundw
                          case rel => exact ⟨k + 1, by omega, by go_num, HX.out.trans (hb_w8.mono HX.out.size)⟩
                          case measure => simp [intOf]; omega
                        · have hkI : ¬ (k : Int) < (K.length : Int) := by omega
                          have hBk : Hid (Below w.heap.size w wk) := Lib.hid S.out.2.2.2.2.bel
                          have hlenE : al.length + tl.length ≤ 140737488355328 := by omega
                          have hblE : Hid (∀ x, al[0]? = some x → bl[0]? = some x) := Lib.hid (fun x hx => by
                            rw [← HBL.out.1, List.getElem?_append_left (by rcases Nat.eq_zero_or_pos al.length with h0 | h0; (rw [List.getElem?_eq_none (by omega)] at hx; cases hx); exact h0)]
                            exact hx)
                          go_wp2_with fail
                          refine wp_cutL _ (lays_end wk wr w2.heap.size P M Aa At ca ct al tl bl hB S.out.2.2.2.1.1 S.out.2.2.1.1 hlenE HBL.out.2 hblE.out FB FO FL _ _ _ _ _ _ _ _ _ _ _ _ _ _ _ _ _ _ _ _ _ _ _ _ _ _ _ _ _ _ _ _ _ _ _ _ _ _ _ _ _ _ _ _ _ _ _ _ _ _ _ _ _ _ _ _ _ _ _ _ _ _ _ _ _ _ _ _ _ _ _ _ _ _ _ _ _ _ _ _ _ _ _ _ _ _ _ _ _ _ _ _ _ _ _ _ _ _ _ _ _ _ _ _ _ _ _ _ _ _ _ _ _ _ _ _ _ _ _ _ _ _ _ _ _ _ _ _ _ _ _ _ _ _ _ _ _ _ _ _ _ _ _ _ _ _ _ _ _ _ _ _ _ _ _ _ _ _ _ _ _ _ _ _ _ _ _ _ _ _ _ _ _ _ _ _ _ _ _ _ _ _ _ _ _ _ _ _ _ _ _ _ _ _ _ _ _ _ _ _ _ _ _ _ _) ?_
                          rintro a9 w9 ⟨⟨v209, v210, v211, v212, v213, v214, v215, v216, v217, v218, v219, v220, v221, v222, v223, v224, v225, v226, v227, v228, v229, v230, v231, v232, v233, v234, v235, v236, v237, v238, v239, rfl⟩, hb9⟩
                          go_wp2_with fail
                          refine bodyPost_ret (by simp [results, Try.results5, go_sem, *]; try rfl) rfl ?_
                          exact ⟨rfl, hBk.out.trans (hb9.mono hBk.out.size)⟩
    · have hb2' := hb2
      clear ht2
      go_wp2_with fail
      refine (works_any w2).mono ?_
      rintro e w3 ⟨rfl, hb3⟩
      go_wp2_with fail
      refine bodyPost_ret (by simp [results, Try.results5, go_sem, *]; try rfl) rfl ?_
      exact ⟨rfl, hb12.trans (hb3.mono hb12.size)⟩
  · have hb1' := hb1
    clear ht1
    go_wp2_with fail
    refine (works_any w1).mono ?_
    rintro e w2 ⟨rfl, hb2⟩
    go_wp2_with fail
    refine bodyPost_ret (by simp [results, Try.results5, go_sem, *]; try rfl) rfl ?_
    exact ⟨rfl, hb1.trans (hb2.mono hb1.size)⟩

end Go.Proofs.Ytiejgandjlldjaa
