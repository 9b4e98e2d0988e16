/-
  THE DOCUMENT's SOLVER, WALKED: the search goes on from the values.
-/
import Derived.Test.YtfeablchjlkjiaaRefE
namespace Go.Proofs.Ytfeablchjlkjiaa
open Go.RowKit Go.Proofs.YtfeablchjlkjiaaW.PrintWords

theorem VOwn.mono {w : World} {b0 b1 b c : Nat} {v : List Int} (h : VOwn w b1 b c v) (hb : b0 ≤ b1) : VOwn w b0 b c v := by
  obtain ⟨h1, h2⟩ := h
  refine ⟨h1, ?_⟩
  rcases h2 with h2 | ⟨g, cap, cur, he, hg, r⟩
  · exact .inl h2
  · exact .inr ⟨g, cap, cur, he, Nat.le_trans hb hg, r⟩
theorem VOwn.lt {w : World} {base b c : Nat} {v : List Int} (h : VOwn w base b c v) : b < w.heap.size := own_lt h b rfl
theorem VOwn.ge {w : World} {base b c : Nat} {v : List Int} (h : VOwn w base b c v) : base ≤ b := own_base h b rfl

/-- What a search that goes on leaves. -/
structure FromPost (R : Sv.Res) (w0 w : World) (g : Nat) (A B : Option Addr) (c d : Nat) (cl : List (List Int)) (pf : List Int) (bud : Int) (e : Ending) (w' : World) : Prop where
  ret : ∃ (mv : Value) (ok : Bool), e = .returned (.tuple #[mv, .bool ok]) ∧ (ok = true ↔ ∃ v2 s, R = .sat v2 s) ∧ ∀ v2 s, R = .sat v2 s → ∃ b2 c2, mv = .slice (some ⟨b2, 0, none⟩) v2.length c2 ∧ VOwn w' w0.heap.size b2 c2 v2 ∧ b2 ≠ g
  at_ : RAt w0 w' g A B c d cl pf bud R.looks R.isSpent
  keep : KeepBut w w' g none

theorem Sv.Res.isSpent_iff {R : Sv.Res} : R.isSpent = true ↔ ∃ s, R = .spent s := by
  cases R <;> simp [Sv.Res.isSpent]

set_option maxRecDepth 100000 in
set_option maxHeartbeats 3200000 in
theorem rfrom_any {w0 : World} {g : Nat} {A B : Option Addr} {c d n : Nat} {cl : List (List Int)} {pf : List Int} {bud : Int} (hl : Sv.Lits n cl pf) (hn : n ≤ 131071) (hbud : bud ≤ 1152921504606846976) : ∀ (f : Nat) (w : World) (b cc : Nat) (v : List Int) (st : Int), v.length = n → Sv.openN v < f → RAt w0 w g A B c d cl pf bud st false → VOwn w w0.heap.size b cc v → b ≠ g → Sv.Tri3 v → 0 ≤ st → st ≤ bud →
    Calls Try.prog 34 #[.pointer (some ⟨g, 0, none⟩), .slice (some ⟨b, 0, none⟩) v.length cc] w (FromPost (Sv.go cl pf bud f v st) w0 w g A B c d cl pf bud) := by
  intro f
  induction f with
  | zero => intro w b cc v st _ h; omega
  | succ f ih =>
    intro w b cc v st hvn hf hS hv hbg ht h0 h1
    subst hvn
    have hscan := rscan_any (cc := cc) hS hv hbg ht hl h0 h1 hbud
    have hri := Sv.rscan_is (v := v) (bud := bud) cl st 0 0 (fun c hc l hx => (hl.cl c hc l hx).1)
    have ho := Sv.scan_open hl bud v st
    have hd := Sv.decision_open hl ho.2
    have hdk := Sv.dcK_is hl bud v st
    have hgo := Sv.go_succ cl pf bud f v st
    obtain ⟨s1, s2, s3, _⟩ := Sv.scanGo_steps (v := v) (bud := bud) cl st 0 0 h1
    change (_ = (Sv.scan cl bud v st).steps ∧ _ = (Sv.scan cl bud v st).spent ∧ _ = (!(Sv.scan cl bud v st).spent && !(Sv.scan cl bud v st).failed) ∧ (_ → _ = (Sv.scan cl bud v st).unit)) at hri
    change st ≤ (Sv.scan cl bud v st).steps at s1
    change (Sv.scan cl bud v st).steps ≤ bud at s2
    generalize Sv.go cl pf bud (f + 1) v st = R at *
    generalize Sv.rscanGo v bud cl st 0 = rs at *
    generalize Sv.scan cl bud v st = S at *
    obtain ⟨rfine, runit, rsteps, rout⟩ := rs
    obtain ⟨r1, r2, r3, r4⟩ := hri
    dsimp only at r1 r2 r3 r4
    subst r1 r2
    have IH := Lib.hid ih
    have HS := Lib.hid hS
    have HV := Lib.hid hv
    have HT := Lib.hid ht
    have HSCAN := Lib.hid hscan
    have HGO := Lib.hid hgo
    have HD := Lib.hid hd
    have HO := Lib.hid ho
    have HDK := Lib.hid hdk
    clear ih hS hv ht hscan hgo hd ho hdk s3
    go_enter Try.func34, Try.ntmps34
    go_wp2_with fail
    refine HSCAN.out.mono ?_
    rintro e w1 ⟨rfl, hS1, hk1⟩
    dsimp only at hS1 ⊢
    have HV1 := Lib.hid (HV.out.keep hk1 hbg)
    have HS1 := Lib.hid hS1
    have HK1 := Lib.hid hk1
    clear hS1 hk1 HSCAN
    cases rfine with
    | false =>
      have hR : ∃ r, R = r ∧ r.looks = S.steps ∧ r.isSpent = S.spent ∧ ∀ v2 s, r ≠ .sat v2 s := by
        have hg := HGO.out
        by_cases q1 : S.spent = true
        · rw [if_pos q1] at hg
          exact ⟨_, hg, rfl, q1.symm, fun _ _ e => nomatch e⟩
        · rw [if_neg q1] at hg
          have q2 : S.failed = true := by
            have q1' : S.spent = false := by simpa using q1
            rw [q1'] at r3
            simpa using r3.symm
          rw [if_pos q2] at hg
          exact ⟨_, hg, rfl, by simpa [Sv.Res.isSpent] using (by simpa using q1 : S.spent = false), fun _ _ e => nomatch e⟩
      obtain ⟨r, rfl, e1, e2, e3⟩ := hR
      have HE := Lib.hid e3
      have HLK := Lib.hid e1
      have HSP := Lib.hid e2
      clear e1 e2 e3 HGO r3 r4 HD HO HDK
      go_wp2_with fail
      go_ret2
      exact ⟨⟨_, false, rfl, ⟨fun e => Bool.noConfusion e, fun ⟨v2, s, e⟩ => absurd e (HE.out v2 s)⟩, fun v2 s e => absurd e (HE.out v2 s)⟩, by rw [HLK.out, HSP.out]; exact HS1.out, HK1.out⟩
    | true =>
      have hfine : S.spent = false ∧ S.failed = false := by simpa using r3.symm
      obtain ⟨q1, q2⟩ := hfine
      obtain rfl := r4 rfl
      have hgo := HGO.out
      rw [q1, q2, if_neg (by decide), if_neg (by decide)] at hgo
      have hS1 := HS1.out
      rw [q1] at hS1
      have HS2 := Lib.hid hS1
      have HDK2 := Lib.hid (fun h3 => HDK.out q1 q2 h3)
      clear hS1 HS1 HGO r3 r4 HDK
      by_cases q3 : S.unit = 0
      · rw [if_neg (fun e => e q3)] at hgo
        have hdec := rdecision_any (cc := cc) HS2.out HV1.out.row HT.out hl
        have hdk := HDK2.out q3
        rw [hdk] at hdec
        have hdo := HD.out
        generalize Sv.decision pf v S.press = lit at *
        have HDEC := Lib.hid hdec
        have HGO := Lib.hid hgo
        clear hdec hgo HDK2 HD HO hdk
        rw [q3]
        go_wp2_with fail
        refine HDEC.out.mono ?_
        rintro e w2 ⟨rfl, m, rfl⟩
        have hS3 := HS2.out.drewN m
        have hkd := kb_drewN (KeepBut.refl w1 g none) m
        have hv3 := HV1.out.keep hkd hbg
        have hk3 := KeepBut.trans HK1.out hkd (.inl rfl)
        clear HS2 HV1 HK1 HDEC hkd
        generalize World.drewN _ _ = w2 at *
        have HS3 := Lib.hid hS3
        have HV3 := Lib.hid hv3
        have HK3 := Lib.hid hk3
        clear hS3 hv3 hk3
        by_cases q4 : lit = 0
        · subst q4
          have hgo := HGO.out
          rw [if_pos rfl] at hgo
          subst hgo
          clear HGO hdo
          go_wp2_with fail
          go_ret2
          refine ⟨⟨_, true, rfl, ⟨fun _ => ⟨_, _, rfl⟩, fun _ => rfl⟩, fun v2 s e => ?_⟩, HS3.out, HK3.out⟩
          obtain ⟨rfl, rfl⟩ := Sv.Res.sat.inj e
          exact ⟨b, cc, rfl, HV3.out, hbg⟩
        · have q5 : (lit == 0) = false := beq_eq_false_iff_ne.2 q4
          have hgo := HGO.out
          rw [if_neg q4] at hgo
          obtain ⟨o1, o2⟩ : Sv.ofL v lit = 0 ∧ Sv.LitN v.length lit := by
            rcases hdo with e | e
            · exact absurd e q4
            · exact e
          have hop := Sv.openN_setL rfl o2 o1
          have hop2 := Sv.openN_setL rfl o2.neg (show Sv.ofL v (-lit) = 0 by rw [Sv.ofL_neg q4, o1]; rfl)
          have hneg : wrap64 (-lit) = -lit := by
            have := o2.2.1
            have := o2.2.2
            unfold wrap64
            omega
          have hwith := rwith_any (c := cc) HV3.out.row hn lit o2
          have hset3 := HT.out.set rfl o2
          have hset4 := HT.out.set rfl o2.neg
          have hslen := Sv.setL_length v lit
          have hslen2 := Sv.setL_length v (-lit)
          have HWITH := Lib.hid hwith
          have HSET := Lib.hid hset3
          have HSET2 := Lib.hid hset4
          have HGO2 := Lib.hid hgo
          have HSL := Lib.hid hslen
          have HSL2 := Lib.hid hslen2
          have HO2 := Lib.hid o2
          have HNEG := Lib.hid hneg
          clear hwith hset3 hset4 hgo hslen hslen2 HGO hdo o1 o2 hneg
          go_wp2_with fail
          refine HWITH.out.mono ?_
          rintro e w3 ⟨b2, c2, rfl, hv4, hb3⟩
          have hg1 := blk_lt HS3.out.blk
          have hne2 : b2 ≠ g := by have := hv4.ge; omega
          have hS4 := HS3.out.grown hb3
          have hv5 := hv4.mono HS3.out.below.size
          have hkb := KeepBut.of_below hb3 g none
          have HV4 := Lib.hid (HV3.out.keep hkb hbg)
          have hfrom := IH.out w3 b2 c2 (Sv.setL v lit) S.steps HSL.out (by omega) hS4 hv5 hne2 HSET.out (by omega) s2
          have hR1s := Sv.go_steps hl bud f (Sv.setL v lit) S.steps HSL.out (by omega) s2
          rw [HSL.out] at hfrom
          generalize Sv.go cl pf bud f (Sv.setL v lit) S.steps = R1 at *
          have HK4 := Lib.hid (KeepBut.trans HK3.out hkb (.inl rfl))
          have HFROM := Lib.hid hfrom
          clear hv4 hb3 hg1 hne2 hS4 hv5 hkb hfrom HWITH HSET HSL HV3 HK3 HS3
          go_wp2_with fail
          refine HFROM.out.mono ?_
          rintro e w4 ⟨⟨mv, ok, rfl, hok, hsat⟩, hat, hkp⟩
          have HOK := Lib.hid hok
          have HSAT := Lib.hid hsat
          have HAT := Lib.hid hat
          have HV5 := Lib.hid (HV4.out.keep hkp hbg)
          have HK5 := Lib.hid (KeepBut.trans HK4.out hkp (.inl rfl))
          have z4 := hat.cell 4
          have z0 := hat.cell 0
          clear hok hsat hat hkp HFROM HV4 HK4
          cases R1 with
          | sat v2 s2' =>
            obtain rfl : ok = true := HOK.out.2 ⟨_, _, rfl⟩
            have hgo : R = .sat v2 s2' := HGO2.out
            subst hgo
            go_wp2_with fail
            go_ret2
            exact ⟨⟨mv, true, rfl, ⟨fun _ => ⟨_, _, rfl⟩, fun _ => rfl⟩, HSAT.out⟩, HAT.out, HK5.out⟩
          | spent s2' =>
            obtain rfl : ok = false := by
              cases ok with
              | false => rfl
              | true => obtain ⟨_, _, e⟩ := HOK.out.1 rfl; cases e
            have hgo : R = .spent s2' := HGO2.out
            subst hgo
            go_wp2_with fail
            go_ret2
            exact ⟨⟨mv, false, rfl, ⟨fun e => Bool.noConfusion e, fun ⟨_, _, e⟩ => nomatch e⟩, HSAT.out⟩, HAT.out, HK5.out⟩
          | unsat s2' =>
            obtain rfl : ok = false := by
              cases ok with
              | false => rfl
              | true => obtain ⟨_, _, e⟩ := HOK.out.1 rfl; cases e
            have hgo : R = Sv.go cl pf bud f (Sv.setL v (-lit)) s2' := HGO2.out
            have hwith := rwith_any (c := cc) HV5.out.row hn (-lit) HO2.out.neg
            have HWITH := Lib.hid hwith
            have HGO3 := Lib.hid hgo
            have hl1 : S.steps ≤ s2' := hR1s.1
            have hl2 : s2' ≤ bud := hR1s.2.1
            have hneg := HNEG.out
            clear hwith hgo HGO2 hR1s HOK HSAT
            go_wp2_with fail
            refine HWITH.out.mono ?_
            rintro e w5 ⟨b3, c3, rfl, hv6, hb5⟩
            have hg1 := blk_lt HAT.out.blk
            have hne2 : b3 ≠ g := by have := hv6.ge; omega
            have hS5 := HAT.out.grown hb5
            have hv7 := hv6.mono HAT.out.below.size
            have hfrom := IH.out w5 b3 c3 (Sv.setL v (-lit)) s2' HSL2.out (by omega) hS5 hv7 hne2 HSET2.out (by omega) hl2
            rw [HSL2.out, ← HGO3.out] at hfrom
            have hk2 := KeepBut.trans HK5.out (KeepBut.of_below hb5 g none) (.inl rfl)
            have HFROM := Lib.hid hfrom
            have HK6 := Lib.hid hk2
            clear hv6 hb5 hg1 hne2 hS5 hv7 hfrom hk2 IH HWITH HSET2 HGO3 HSL2 z0 z4 HAT HK5 HV5
            go_wp2_with fail
            refine HFROM.out.mono ?_
            rintro e w6 ⟨⟨mv2, ok, rfl, hok, hsat⟩, hat, hkp⟩
            have HOK := Lib.hid hok
            have HSAT := Lib.hid hsat
            have HAT := Lib.hid hat
            have HKP := Lib.hid hkp
            clear hok hsat hat hkp HFROM
            go_wp2_with fail
            go_ret2
            exact ⟨⟨mv2, ok, rfl, HOK.out, HSAT.out⟩, HAT.out, KeepBut.trans HK6.out HKP.out (.inl rfl)⟩
      · rw [if_pos q3] at hgo
        have q4 : (S.unit == 0) = false := beq_eq_false_iff_ne.2 q3
        have q5 : (S.unit != 0) = true := by rw [bne, q4]; rfl
        obtain ⟨o1, o2⟩ : Sv.ofL v S.unit = 0 ∧ Sv.LitN v.length S.unit := by
          rcases HO.out.1 with e | e
          · exact absurd e q3
          · exact e
        have hop := Sv.openN_setL rfl o2 o1
        have hwith := rwith_any (c := cc) HV1.out.row hn S.unit o2
        have hset3 := HT.out.set rfl o2
        have hslen := Sv.setL_length v S.unit
        generalize S.unit = lit at *
        have HWITH := Lib.hid hwith
        have HSET := Lib.hid hset3
        have HGO := Lib.hid hgo
        have HSL := Lib.hid hslen
        clear hwith hset3 hgo HDK2 HD HO hslen
        go_wp2_with fail
        refine HWITH.out.mono ?_
        rintro e w2 ⟨b2, c2, rfl, hv2, hb2⟩
        have hg1 := blk_lt HS2.out.blk
        have hne2 : b2 ≠ g := by have := hv2.ge; omega
        have hS3 := HS2.out.grown hb2
        have hv3 := hv2.mono HS2.out.below.size
        have hfrom := IH.out w2 b2 c2 (Sv.setL v lit) S.steps HSL.out (by omega) hS3 hv3 hne2 HSET.out (by omega) s2
        rw [HSL.out, ← HGO.out] at hfrom
        have hk2 := KeepBut.trans HK1.out (KeepBut.of_below hb2 g none) (.inl rfl)
        have HFROM := Lib.hid hfrom
        have HK2 := Lib.hid hk2
        clear hv2 hb2 hg1 hne2 hS3 hv3 hfrom hk2 IH HWITH HSET HGO HSL
        go_wp2_with fail
        refine HFROM.out.mono ?_
        rintro e w3 ⟨⟨mv, ok, rfl, hok, hsat⟩, hat, hkp⟩
        have HOK := Lib.hid hok
        have HSAT := Lib.hid hsat
        have HAT := Lib.hid hat
        have HKP := Lib.hid hkp
        clear hok hsat hat hkp HFROM
        go_wp2_with fail
        go_ret2
        exact ⟨⟨mv, ok, rfl, HOK.out, HSAT.out⟩, HAT.out, KeepBut.trans HK2.out HKP.out (.inl rfl)⟩
end Go.Proofs.Ytfeablchjlkjiaa
