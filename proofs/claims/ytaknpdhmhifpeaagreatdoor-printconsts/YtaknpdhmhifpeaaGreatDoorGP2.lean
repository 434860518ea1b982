import Derived.Test.YtaknpdhmhifpeaaGreatDoorE0
import Derived.Test.YtaknpdhmhifpeaaGreatDoorGP1
set_option linter.unusedVariables false
set_option linter.unusedSimpArgs false
namespace Go.Proofs.YtaknpdhmhifpeaaGreatDoor
open Go
def C_lexis_IsWord (φ : ByteArray → Option Bool) : Prop := ∀ ⦃x1 : ByteArray⦄ ⦃r : Bool⦄, φ x1 = some r → ∀ ⦃w0 : World⦄ ⦃h0 : Hp⦄, Sub h0 w0 →
  Calls Tryz.prog 119 #[.string x1] w0 fun e w1 => ∃ v, e = .returned v ∧ ∃ h1, Stp [] w0 h0 w1 h1 ∧ v = .bool r
set_option maxRecDepth 20000 in
set_option maxHeartbeats 4000000 in
theorem s_lexis_IsWord (k : Nat) : C_lexis_IsWord (F_lexis_IsWord k) := by
  intro x1 r HF w0 h0  hs0 
  have S0 : Stp [] w0 h0 w0 h0 := Stp.refl hs0 _
  refine enter (n := 95) Tryz.func119 rfl Tryz.ntmps119 rfl [(0, .string x1)] rfl ?_
  refine WC.seq ?_
  refine WC.region ?_
  refine WL.val rfl rfl rfl (ov_assign rfl) ?_
  refine WL.nil ?_
  refine WQ.seqN ?_
  refine WC.join (fun E w99 => ∃ (h98 : Hp), lexis_IsWord_j2 k  = some r ∧ E = [] ∧ Stp [] w0 h0 w99 h98 ∧ Hle h0 h98) ?_ ?_
  · rintro E w99 ⟨h98, HF, rfl, S101, le100⟩
    refine WC.seq ?_
    refine WC.region ?_
    refine WL.val rfl rfl rfl (ov_assign rfl) ?_
    refine WL.nil ?_
    refine WQ.seqN ?_
    refine WC.ret ?_
    refine WQ.ret1 rfl rfl ?_
    obtain rfl := Option.some.inj HF
    exact ⟨_, rfl, h98, S101, rfl⟩
  · intro J102
    refine WC.seq ?_
    refine WC.region ?_
    refine WL.val rfl rfl rfl (ov_move rfl) ?_
    refine WL.nil ?_
    refine WQ.seqN ?_
    refine WC.block ?_
    refine WC.join (fun E w92 => ∃ (h91 : Hp) (x95 : Bool), lexis_IsWord_j1 k x95 = some r ∧ E = [(4, .bool x95)] ∧ Stp [] w0 h0 w92 h91 ∧ Hle h0 h91) ?_ ?_
    · rintro E w92 ⟨h91, x95, HF, rfl, S94, le93⟩
      refine WC.cond (b := x95) rfl (fun hb96 => ?_) (fun hb96 => ?_)
      · replace HF := bif_t hb96 HF
        refine WC.seq ?_
        refine WC.region ?_
        refine WL.val rfl rfl rfl (ov_assign rfl) ?_
        refine WL.nil ?_
        refine WQ.seqN ?_
        refine WC.ret ?_
        refine WQ.blockRet ?_
        refine WQ.thenRet ?_
        refine WQ.ret1 rfl rfl ?_
        obtain rfl := Option.some.inj HF
        exact ⟨_, rfl, h91, S94, rfl⟩
      · replace HF := bif_f hb96 HF
        refine WC.skip ?_
        refine WQ.blockN ?_
        refine WC.to [] [] rfl ?_
        exact J102 ⟨h91, HF, rfl, S94, le93⟩
    · intro J97
      refine WC.seq ?_
      refine WC.region ?_
      refine WL.val rfl rfl rfl (ov_eqlS rfl rfl) ?_
      refine WL.val rfl rfl rfl (ov_assign rfl) ?_
      refine WL.nil ?_
      refine WQ.seqN ?_
      refine WC.cond (b := bEq x1 (⟨#[97, 100, 100]⟩ : ByteArray)) rfl (fun hb2 => ?_) (fun hb2 => ?_)
      · replace HF := bif_t hb2 HF
        refine WC.skip ?_
        refine WC.to [4] [(4, .bool (bEq x1 (⟨#[97, 100, 100]⟩ : ByteArray)))] rfl ?_
        exact J97 ⟨h0, bEq x1 (⟨#[97, 100, 100]⟩ : ByteArray), HF, rfl, S0, Hle.refl _⟩
      · replace HF := bif_f hb2 HF
        refine WC.seq ?_
        refine WC.region ?_
        refine WL.val rfl rfl rfl (ov_eqlS rfl rfl) ?_
        refine WL.val rfl rfl rfl (ov_assign rfl) ?_
        refine WL.nil ?_
        refine WQ.seqN ?_
        refine WC.cond (b := bEq x1 (⟨#[97, 110, 100]⟩ : ByteArray)) rfl (fun hb3 => ?_) (fun hb3 => ?_)
        · replace HF := bif_t hb3 HF
          refine WC.skip ?_
          refine WC.to [4] [(4, .bool (bEq x1 (⟨#[97, 110, 100]⟩ : ByteArray)))] rfl ?_
          exact J97 ⟨h0, bEq x1 (⟨#[97, 110, 100]⟩ : ByteArray), HF, rfl, S0, Hle.refl _⟩
        · replace HF := bif_f hb3 HF
          refine WC.seq ?_
          refine WC.region ?_
          refine WL.val rfl rfl rfl (ov_eqlS rfl rfl) ?_
          refine WL.val rfl rfl rfl (ov_assign rfl) ?_
          refine WL.nil ?_
          refine WQ.seqN ?_
          refine WC.cond (b := bEq x1 (⟨#[97, 110, 100, 110]⟩ : ByteArray)) rfl (fun hb4 => ?_) (fun hb4 => ?_)
          · replace HF := bif_t hb4 HF
            refine WC.skip ?_
            refine WC.to [4] [(4, .bool (bEq x1 (⟨#[97, 110, 100, 110]⟩ : ByteArray)))] rfl ?_
            exact J97 ⟨h0, bEq x1 (⟨#[97, 110, 100, 110]⟩ : ByteArray), HF, rfl, S0, Hle.refl _⟩
          · replace HF := bif_f hb4 HF
            refine WC.seq ?_
            refine WC.region ?_
            refine WL.val rfl rfl rfl (ov_eqlS rfl rfl) ?_
            refine WL.val rfl rfl rfl (ov_assign rfl) ?_
            refine WL.nil ?_
            refine WQ.seqN ?_
            refine WC.cond (b := bEq x1 (⟨#[97, 116]⟩ : ByteArray)) rfl (fun hb5 => ?_) (fun hb5 => ?_)
            · replace HF := bif_t hb5 HF
              refine WC.skip ?_
              refine WC.to [4] [(4, .bool (bEq x1 (⟨#[97, 116]⟩ : ByteArray)))] rfl ?_
              exact J97 ⟨h0, bEq x1 (⟨#[97, 116]⟩ : ByteArray), HF, rfl, S0, Hle.refl _⟩
            · replace HF := bif_f hb5 HF
              refine WC.seq ?_
              refine WC.region ?_
              refine WL.val rfl rfl rfl (ov_eqlS rfl rfl) ?_
              refine WL.val rfl rfl rfl (ov_assign rfl) ?_
              refine WL.nil ?_
              refine WQ.seqN ?_
              refine WC.cond (b := bEq x1 (⟨#[98, 108, 111, 99, 107]⟩ : ByteArray)) rfl (fun hb6 => ?_) (fun hb6 => ?_)
              · replace HF := bif_t hb6 HF
                refine WC.skip ?_
                refine WC.to [4] [(4, .bool (bEq x1 (⟨#[98, 108, 111, 99, 107]⟩ : ByteArray)))] rfl ?_
                exact J97 ⟨h0, bEq x1 (⟨#[98, 108, 111, 99, 107]⟩ : ByteArray), HF, rfl, S0, Hle.refl _⟩
              · replace HF := bif_f hb6 HF
                refine WC.seq ?_
                refine WC.region ?_
                refine WL.val rfl rfl rfl (ov_eqlS rfl rfl) ?_
                refine WL.val rfl rfl rfl (ov_assign rfl) ?_
                refine WL.nil ?_
                refine WQ.seqN ?_
                refine WC.cond (b := bEq x1 (⟨#[98, 111, 111, 108]⟩ : ByteArray)) rfl (fun hb7 => ?_) (fun hb7 => ?_)
                · replace HF := bif_t hb7 HF
                  refine WC.skip ?_
                  refine WC.to [4] [(4, .bool (bEq x1 (⟨#[98, 111, 111, 108]⟩ : ByteArray)))] rfl ?_
                  exact J97 ⟨h0, bEq x1 (⟨#[98, 111, 111, 108]⟩ : ByteArray), HF, rfl, S0, Hle.refl _⟩
                · replace HF := bif_f hb7 HF
                  refine WC.seq ?_
                  refine WC.region ?_
                  refine WL.val rfl rfl rfl (ov_eqlS rfl rfl) ?_
                  refine WL.val rfl rfl rfl (ov_assign rfl) ?_
                  refine WL.nil ?_
                  refine WQ.seqN ?_
                  refine WC.cond (b := bEq x1 (⟨#[98, 111, 120]⟩ : ByteArray)) rfl (fun hb8 => ?_) (fun hb8 => ?_)
                  · replace HF := bif_t hb8 HF
                    refine WC.skip ?_
                    refine WC.to [4] [(4, .bool (bEq x1 (⟨#[98, 111, 120]⟩ : ByteArray)))] rfl ?_
                    exact J97 ⟨h0, bEq x1 (⟨#[98, 111, 120]⟩ : ByteArray), HF, rfl, S0, Hle.refl _⟩
                  · replace HF := bif_f hb8 HF
                    refine WC.seq ?_
                    refine WC.region ?_
                    refine WL.val rfl rfl rfl (ov_eqlS rfl rfl) ?_
                    refine WL.val rfl rfl rfl (ov_assign rfl) ?_
                    refine WL.nil ?_
                    refine WQ.seqN ?_
                    refine WC.cond (b := bEq x1 (⟨#[98, 121]⟩ : ByteArray)) rfl (fun hb9 => ?_) (fun hb9 => ?_)
                    · replace HF := bif_t hb9 HF
                      refine WC.skip ?_
                      refine WC.to [4] [(4, .bool (bEq x1 (⟨#[98, 121]⟩ : ByteArray)))] rfl ?_
                      exact J97 ⟨h0, bEq x1 (⟨#[98, 121]⟩ : ByteArray), HF, rfl, S0, Hle.refl _⟩
                    · replace HF := bif_f hb9 HF
                      refine WC.seq ?_
                      refine WC.region ?_
                      refine WL.val rfl rfl rfl (ov_eqlS rfl rfl) ?_
                      refine WL.val rfl rfl rfl (ov_assign rfl) ?_
                      refine WL.nil ?_
                      refine WQ.seqN ?_
                      refine WC.cond (b := bEq x1 (⟨#[99, 97, 108]⟩ : ByteArray)) rfl (fun hb10 => ?_) (fun hb10 => ?_)
                      · replace HF := bif_t hb10 HF
                        refine WC.skip ?_
                        refine WC.to [4] [(4, .bool (bEq x1 (⟨#[99, 97, 108]⟩ : ByteArray)))] rfl ?_
                        exact J97 ⟨h0, bEq x1 (⟨#[99, 97, 108]⟩ : ByteArray), HF, rfl, S0, Hle.refl _⟩
                      · replace HF := bif_f hb10 HF
                        refine WC.seq ?_
                        refine WC.region ?_
                        refine WL.val rfl rfl rfl (ov_eqlS rfl rfl) ?_
                        refine WL.val rfl rfl rfl (ov_assign rfl) ?_
                        refine WL.nil ?_
                        refine WQ.seqN ?_
                        refine WC.cond (b := bEq x1 (⟨#[99, 97, 108, 99]⟩ : ByteArray)) rfl (fun hb11 => ?_) (fun hb11 => ?_)
                        · replace HF := bif_t hb11 HF
                          refine WC.skip ?_
                          refine WC.to [4] [(4, .bool (bEq x1 (⟨#[99, 97, 108, 99]⟩ : ByteArray)))] rfl ?_
                          exact J97 ⟨h0, bEq x1 (⟨#[99, 97, 108, 99]⟩ : ByteArray), HF, rfl, S0, Hle.refl _⟩
                        · replace HF := bif_f hb11 HF
                          refine WC.seq ?_
                          refine WC.region ?_
                          refine WL.val rfl rfl rfl (ov_eqlS rfl rfl) ?_
                          refine WL.val rfl rfl rfl (ov_assign rfl) ?_
                          refine WL.nil ?_
                          refine WQ.seqN ?_
                          refine WC.cond (b := bEq x1 (⟨#[99, 97, 108, 99, 110]⟩ : ByteArray)) rfl (fun hb12 => ?_) (fun hb12 => ?_)
                          · replace HF := bif_t hb12 HF
                            refine WC.skip ?_
                            refine WC.to [4] [(4, .bool (bEq x1 (⟨#[99, 97, 108, 99, 110]⟩ : ByteArray)))] rfl ?_
                            exact J97 ⟨h0, bEq x1 (⟨#[99, 97, 108, 99, 110]⟩ : ByteArray), HF, rfl, S0, Hle.refl _⟩
                          · replace HF := bif_f hb12 HF
                            refine WC.seq ?_
                            refine WC.region ?_
                            refine WL.val rfl rfl rfl (ov_eqlS rfl rfl) ?_
                            refine WL.val rfl rfl rfl (ov_assign rfl) ?_
                            refine WL.nil ?_
                            refine WQ.seqN ?_
                            refine WC.cond (b := bEq x1 (⟨#[99, 97, 115, 101]⟩ : ByteArray)) rfl (fun hb13 => ?_) (fun hb13 => ?_)
                            · replace HF := bif_t hb13 HF
                              refine WC.skip ?_
                              refine WC.to [4] [(4, .bool (bEq x1 (⟨#[99, 97, 115, 101]⟩ : ByteArray)))] rfl ?_
                              exact J97 ⟨h0, bEq x1 (⟨#[99, 97, 115, 101]⟩ : ByteArray), HF, rfl, S0, Hle.refl _⟩
                            · replace HF := bif_f hb13 HF
                              refine WC.seq ?_
                              refine WC.region ?_
                              refine WL.val rfl rfl rfl (ov_eqlS rfl rfl) ?_
                              refine WL.val rfl rfl rfl (ov_assign rfl) ?_
                              refine WL.nil ?_
                              refine WQ.seqN ?_
                              refine WC.cond (b := bEq x1 (⟨#[100, 101, 108, 97, 121]⟩ : ByteArray)) rfl (fun hb14 => ?_) (fun hb14 => ?_)
                              · replace HF := bif_t hb14 HF
                                refine WC.skip ?_
                                refine WC.to [4] [(4, .bool (bEq x1 (⟨#[100, 101, 108, 97, 121]⟩ : ByteArray)))] rfl ?_
                                exact J97 ⟨h0, bEq x1 (⟨#[100, 101, 108, 97, 121]⟩ : ByteArray), HF, rfl, S0, Hle.refl _⟩
                              · replace HF := bif_f hb14 HF
                                refine WC.seq ?_
                                refine WC.region ?_
                                refine WL.val rfl rfl rfl (ov_eqlS rfl rfl) ?_
                                refine WL.val rfl rfl rfl (ov_assign rfl) ?_
                                refine WL.nil ?_
                                refine WQ.seqN ?_
                                refine WC.cond (b := bEq x1 (⟨#[100, 105, 118]⟩ : ByteArray)) rfl (fun hb15 => ?_) (fun hb15 => ?_)
                                · replace HF := bif_t hb15 HF
                                  refine WC.skip ?_
                                  refine WC.to [4] [(4, .bool (bEq x1 (⟨#[100, 105, 118]⟩ : ByteArray)))] rfl ?_
                                  exact J97 ⟨h0, bEq x1 (⟨#[100, 105, 118]⟩ : ByteArray), HF, rfl, S0, Hle.refl _⟩
                                · replace HF := bif_f hb15 HF
                                  refine WC.seq ?_
                                  refine WC.region ?_
                                  refine WL.val rfl rfl rfl (ov_eqlS rfl rfl) ?_
                                  refine WL.val rfl rfl rfl (ov_assign rfl) ?_
                                  refine WL.nil ?_
                                  refine WQ.seqN ?_
                                  refine WC.cond (b := bEq x1 (⟨#[100, 111]⟩ : ByteArray)) rfl (fun hb16 => ?_) (fun hb16 => ?_)
                                  · replace HF := bif_t hb16 HF
                                    refine WC.skip ?_
                                    refine WC.to [4] [(4, .bool (bEq x1 (⟨#[100, 111]⟩ : ByteArray)))] rfl ?_
                                    exact J97 ⟨h0, bEq x1 (⟨#[100, 111]⟩ : ByteArray), HF, rfl, S0, Hle.refl _⟩
                                  · replace HF := bif_f hb16 HF
                                    refine WC.seq ?_
                                    refine WC.region ?_
                                    refine WL.val rfl rfl rfl (ov_eqlS rfl rfl) ?_
                                    refine WL.val rfl rfl rfl (ov_assign rfl) ?_
                                    refine WL.nil ?_
                                    refine WQ.seqN ?_
                                    refine WC.cond (b := bEq x1 (⟨#[101, 108, 115, 101]⟩ : ByteArray)) rfl (fun hb17 => ?_) (fun hb17 => ?_)
                                    · replace HF := bif_t hb17 HF
                                      refine WC.skip ?_
                                      refine WC.to [4] [(4, .bool (bEq x1 (⟨#[101, 108, 115, 101]⟩ : ByteArray)))] rfl ?_
                                      exact J97 ⟨h0, bEq x1 (⟨#[101, 108, 115, 101]⟩ : ByteArray), HF, rfl, S0, Hle.refl _⟩
                                    · replace HF := bif_f hb17 HF
                                      refine WC.seq ?_
                                      refine WC.region ?_
                                      refine WL.val rfl rfl rfl (ov_eqlS rfl rfl) ?_
                                      refine WL.val rfl rfl rfl (ov_assign rfl) ?_
                                      refine WL.nil ?_
                                      refine WQ.seqN ?_
                                      refine WC.cond (b := bEq x1 (⟨#[101, 108, 115, 105, 102]⟩ : ByteArray)) rfl (fun hb18 => ?_) (fun hb18 => ?_)
                                      · replace HF := bif_t hb18 HF
                                        refine WC.skip ?_
                                        refine WC.to [4] [(4, .bool (bEq x1 (⟨#[101, 108, 115, 105, 102]⟩ : ByteArray)))] rfl ?_
                                        exact J97 ⟨h0, bEq x1 (⟨#[101, 108, 115, 105, 102]⟩ : ByteArray), HF, rfl, S0, Hle.refl _⟩
                                      · replace HF := bif_f hb18 HF
                                        refine WC.seq ?_
                                        refine WC.region ?_
                                        refine WL.val rfl rfl rfl (ov_eqlS rfl rfl) ?_
                                        refine WL.val rfl rfl rfl (ov_assign rfl) ?_
                                        refine WL.nil ?_
                                        refine WQ.seqN ?_
                                        refine WC.cond (b := bEq x1 (⟨#[101, 110, 100]⟩ : ByteArray)) rfl (fun hb19 => ?_) (fun hb19 => ?_)
                                        · replace HF := bif_t hb19 HF
                                          refine WC.skip ?_
                                          refine WC.to [4] [(4, .bool (bEq x1 (⟨#[101, 110, 100]⟩ : ByteArray)))] rfl ?_
                                          exact J97 ⟨h0, bEq x1 (⟨#[101, 110, 100]⟩ : ByteArray), HF, rfl, S0, Hle.refl _⟩
                                        · replace HF := bif_f hb19 HF
                                          refine WC.seq ?_
                                          refine WC.region ?_
                                          refine WL.val rfl rfl rfl (ov_eqlS rfl rfl) ?_
                                          refine WL.val rfl rfl rfl (ov_assign rfl) ?_
                                          refine WL.nil ?_
                                          refine WQ.seqN ?_
                                          refine WC.cond (b := bEq x1 (⟨#[101, 110, 100, 95, 99, 97, 115, 101]⟩ : ByteArray)) rfl (fun hb20 => ?_) (fun hb20 => ?_)
                                          · replace HF := bif_t hb20 HF
                                            refine WC.skip ?_
                                            refine WC.to [4] [(4, .bool (bEq x1 (⟨#[101, 110, 100, 95, 99, 97, 115, 101]⟩ : ByteArray)))] rfl ?_
                                            exact J97 ⟨h0, bEq x1 (⟨#[101, 110, 100, 95, 99, 97, 115, 101]⟩ : ByteArray), HF, rfl, S0, Hle.refl _⟩
                                          · replace HF := bif_f hb20 HF
                                            refine WC.seq ?_
                                            refine WC.region ?_
                                            refine WL.val rfl rfl rfl (ov_eqlS rfl rfl) ?_
                                            refine WL.val rfl rfl rfl (ov_assign rfl) ?_
                                            refine WL.nil ?_
                                            refine WQ.seqN ?_
                                            refine WC.cond (b := bEq x1 (⟨#[101, 110, 100, 95, 102, 111, 114]⟩ : ByteArray)) rfl (fun hb21 => ?_) (fun hb21 => ?_)
                                            · replace HF := bif_t hb21 HF
                                              refine WC.skip ?_
                                              refine WC.to [4] [(4, .bool (bEq x1 (⟨#[101, 110, 100, 95, 102, 111, 114]⟩ : ByteArray)))] rfl ?_
                                              exact J97 ⟨h0, bEq x1 (⟨#[101, 110, 100, 95, 102, 111, 114]⟩ : ByteArray), HF, rfl, S0, Hle.refl _⟩
                                            · replace HF := bif_f hb21 HF
                                              refine WC.seq ?_
                                              refine WC.region ?_
                                              refine WL.val rfl rfl rfl (ov_eqlS rfl rfl) ?_
                                              refine WL.val rfl rfl rfl (ov_assign rfl) ?_
                                              refine WL.nil ?_
                                              refine WQ.seqN ?_
                                              refine WC.cond (b := bEq x1 (⟨#[101, 110, 100, 95, 105, 102]⟩ : ByteArray)) rfl (fun hb22 => ?_) (fun hb22 => ?_)
                                              · replace HF := bif_t hb22 HF
                                                refine WC.skip ?_
                                                refine WC.to [4] [(4, .bool (bEq x1 (⟨#[101, 110, 100, 95, 105, 102]⟩ : ByteArray)))] rfl ?_
                                                exact J97 ⟨h0, bEq x1 (⟨#[101, 110, 100, 95, 105, 102]⟩ : ByteArray), HF, rfl, S0, Hle.refl _⟩
                                              · replace HF := bif_f hb22 HF
                                                refine WC.seq ?_
                                                refine WC.region ?_
                                                refine WL.val rfl rfl rfl (ov_eqlS rfl rfl) ?_
                                                refine WL.val rfl rfl rfl (ov_assign rfl) ?_
                                                refine WL.nil ?_
                                                refine WQ.seqN ?_
                                                refine WC.cond (b := bEq x1 (⟨#[101, 110, 100, 95, 114, 101, 112, 101, 97, 116]⟩ : ByteArray)) rfl (fun hb23 => ?_) (fun hb23 => ?_)
                                                · replace HF := bif_t hb23 HF
                                                  refine WC.skip ?_
                                                  refine WC.to [4] [(4, .bool (bEq x1 (⟨#[101, 110, 100, 95, 114, 101, 112, 101, 97, 116]⟩ : ByteArray)))] rfl ?_
                                                  exact J97 ⟨h0, bEq x1 (⟨#[101, 110, 100, 95, 114, 101, 112, 101, 97, 116]⟩ : ByteArray), HF, rfl, S0, Hle.refl _⟩
                                                · replace HF := bif_f hb23 HF
                                                  refine WC.seq ?_
                                                  refine WC.region ?_
                                                  refine WL.val rfl rfl rfl (ov_eqlS rfl rfl) ?_
                                                  refine WL.val rfl rfl rfl (ov_assign rfl) ?_
                                                  refine WL.nil ?_
                                                  refine WQ.seqN ?_
                                                  refine WC.cond (b := bEq x1 (⟨#[101, 110, 100, 95, 119, 104, 105, 108, 101]⟩ : ByteArray)) rfl (fun hb24 => ?_) (fun hb24 => ?_)
                                                  · replace HF := bif_t hb24 HF
                                                    refine WC.skip ?_
                                                    refine WC.to [4] [(4, .bool (bEq x1 (⟨#[101, 110, 100, 95, 119, 104, 105, 108, 101]⟩ : ByteArray)))] rfl ?_
                                                    exact J97 ⟨h0, bEq x1 (⟨#[101, 110, 100, 95, 119, 104, 105, 108, 101]⟩ : ByteArray), HF, rfl, S0, Hle.refl _⟩
                                                  · replace HF := bif_f hb24 HF
                                                    refine WC.seq ?_
                                                    refine WC.region ?_
                                                    refine WL.val rfl rfl rfl (ov_eqlS rfl rfl) ?_
                                                    refine WL.val rfl rfl rfl (ov_assign rfl) ?_
                                                    refine WL.nil ?_
                                                    refine WQ.seqN ?_
                                                    refine WC.cond (b := bEq x1 (⟨#[101, 110, 116, 101, 114]⟩ : ByteArray)) rfl (fun hb25 => ?_) (fun hb25 => ?_)
                                                    · replace HF := bif_t hb25 HF
                                                      refine WC.skip ?_
                                                      refine WC.to [4] [(4, .bool (bEq x1 (⟨#[101, 110, 116, 101, 114]⟩ : ByteArray)))] rfl ?_
                                                      exact J97 ⟨h0, bEq x1 (⟨#[101, 110, 116, 101, 114]⟩ : ByteArray), HF, rfl, S0, Hle.refl _⟩
                                                    · replace HF := bif_f hb25 HF
                                                      refine WC.seq ?_
                                                      refine WC.region ?_
                                                      refine WL.val rfl rfl rfl (ov_eqlS rfl rfl) ?_
                                                      refine WL.val rfl rfl rfl (ov_assign rfl) ?_
                                                      refine WL.nil ?_
                                                      refine WQ.seqN ?_
                                                      refine WC.cond (b := bEq x1 (⟨#[101, 113]⟩ : ByteArray)) rfl (fun hb26 => ?_) (fun hb26 => ?_)
                                                      · replace HF := bif_t hb26 HF
                                                        refine WC.skip ?_
                                                        refine WC.to [4] [(4, .bool (bEq x1 (⟨#[101, 113]⟩ : ByteArray)))] rfl ?_
                                                        exact J97 ⟨h0, bEq x1 (⟨#[101, 113]⟩ : ByteArray), HF, rfl, S0, Hle.refl _⟩
                                                      · replace HF := bif_f hb26 HF
                                                        refine WC.seq ?_
                                                        refine WC.region ?_
                                                        refine WL.val rfl rfl rfl (ov_eqlS rfl rfl) ?_
                                                        refine WL.val rfl rfl rfl (ov_assign rfl) ?_
                                                        refine WL.nil ?_
                                                        refine WQ.seqN ?_
                                                        refine WC.cond (b := bEq x1 (⟨#[101, 118, 101, 114, 121]⟩ : ByteArray)) rfl (fun hb27 => ?_) (fun hb27 => ?_)
                                                        · replace HF := bif_t hb27 HF
                                                          refine WC.skip ?_
                                                          refine WC.to [4] [(4, .bool (bEq x1 (⟨#[101, 118, 101, 114, 121]⟩ : ByteArray)))] rfl ?_
                                                          exact J97 ⟨h0, bEq x1 (⟨#[101, 118, 101, 114, 121]⟩ : ByteArray), HF, rfl, S0, Hle.refl _⟩
                                                        · replace HF := bif_f hb27 HF
                                                          refine WC.seq ?_
                                                          refine WC.region ?_
                                                          refine WL.val rfl rfl rfl (ov_eqlS rfl rfl) ?_
                                                          refine WL.val rfl rfl rfl (ov_assign rfl) ?_
                                                          refine WL.nil ?_
                                                          refine WQ.seqN ?_
                                                          refine WC.cond (b := bEq x1 (⟨#[101, 120, 105, 116]⟩ : ByteArray)) rfl (fun hb28 => ?_) (fun hb28 => ?_)
                                                          · replace HF := bif_t hb28 HF
                                                            refine WC.skip ?_
                                                            refine WC.to [4] [(4, .bool (bEq x1 (⟨#[101, 120, 105, 116]⟩ : ByteArray)))] rfl ?_
                                                            exact J97 ⟨h0, bEq x1 (⟨#[101, 120, 105, 116]⟩ : ByteArray), HF, rfl, S0, Hle.refl _⟩
                                                          · replace HF := bif_f hb28 HF
                                                            refine WC.seq ?_
                                                            refine WC.region ?_
                                                            refine WL.val rfl rfl rfl (ov_eqlS rfl rfl) ?_
                                                            refine WL.val rfl rfl rfl (ov_assign rfl) ?_
                                                            refine WL.nil ?_
                                                            refine WQ.seqN ?_
                                                            refine WC.cond (b := bEq x1 (⟨#[102, 97, 108, 108]⟩ : ByteArray)) rfl (fun hb29 => ?_) (fun hb29 => ?_)
                                                            · replace HF := bif_t hb29 HF
                                                              refine WC.skip ?_
                                                              refine WC.to [4] [(4, .bool (bEq x1 (⟨#[102, 97, 108, 108]⟩ : ByteArray)))] rfl ?_
                                                              exact J97 ⟨h0, bEq x1 (⟨#[102, 97, 108, 108]⟩ : ByteArray), HF, rfl, S0, Hle.refl _⟩
                                                            · replace HF := bif_f hb29 HF
                                                              refine WC.seq ?_
                                                              refine WC.region ?_
                                                              refine WL.val rfl rfl rfl (ov_eqlS rfl rfl) ?_
                                                              refine WL.val rfl rfl rfl (ov_assign rfl) ?_
                                                              refine WL.nil ?_
                                                              refine WQ.seqN ?_
                                                              refine WC.cond (b := bEq x1 (⟨#[102, 97, 108, 115, 101]⟩ : ByteArray)) rfl (fun hb30 => ?_) (fun hb30 => ?_)
                                                              · replace HF := bif_t hb30 HF
                                                                refine WC.skip ?_
                                                                refine WC.to [4] [(4, .bool (bEq x1 (⟨#[102, 97, 108, 115, 101]⟩ : ByteArray)))] rfl ?_
                                                                exact J97 ⟨h0, bEq x1 (⟨#[102, 97, 108, 115, 101]⟩ : ByteArray), HF, rfl, S0, Hle.refl _⟩
                                                              · replace HF := bif_f hb30 HF
                                                                refine WC.seq ?_
                                                                refine WC.region ?_
                                                                refine WL.val rfl rfl rfl (ov_eqlS rfl rfl) ?_
                                                                refine WL.val rfl rfl rfl (ov_assign rfl) ?_
                                                                refine WL.nil ?_
                                                                refine WQ.seqN ?_
                                                                refine WC.cond (b := bEq x1 (⟨#[102, 98, 100]⟩ : ByteArray)) rfl (fun hb31 => ?_) (fun hb31 => ?_)
                                                                · replace HF := bif_t hb31 HF
                                                                  refine WC.skip ?_
                                                                  refine WC.to [4] [(4, .bool (bEq x1 (⟨#[102, 98, 100]⟩ : ByteArray)))] rfl ?_
                                                                  exact J97 ⟨h0, bEq x1 (⟨#[102, 98, 100]⟩ : ByteArray), HF, rfl, S0, Hle.refl _⟩
                                                                · replace HF := bif_f hb31 HF
                                                                  refine WC.seq ?_
                                                                  refine WC.region ?_
                                                                  refine WL.val rfl rfl rfl (ov_eqlS rfl rfl) ?_
                                                                  refine WL.val rfl rfl rfl (ov_assign rfl) ?_
                                                                  refine WL.nil ?_
                                                                  refine WQ.seqN ?_
                                                                  refine WC.cond (b := bEq x1 (⟨#[102, 111, 114]⟩ : ByteArray)) rfl (fun hb32 => ?_) (fun hb32 => ?_)
                                                                  · replace HF := bif_t hb32 HF
                                                                    refine WC.skip ?_
                                                                    refine WC.to [4] [(4, .bool (bEq x1 (⟨#[102, 111, 114]⟩ : ByteArray)))] rfl ?_
                                                                    exact J97 ⟨h0, bEq x1 (⟨#[102, 111, 114]⟩ : ByteArray), HF, rfl, S0, Hle.refl _⟩
                                                                  · replace HF := bif_f hb32 HF
                                                                    refine WC.seq ?_
                                                                    refine WC.region ?_
                                                                    refine WL.val rfl rfl rfl (ov_eqlS rfl rfl) ?_
                                                                    refine WL.val rfl rfl rfl (ov_assign rfl) ?_
                                                                    refine WL.nil ?_
                                                                    refine WQ.seqN ?_
                                                                    refine WC.cond (b := bEq x1 (⟨#[102, 114, 111, 109]⟩ : ByteArray)) rfl (fun hb33 => ?_) (fun hb33 => ?_)
                                                                    · replace HF := bif_t hb33 HF
                                                                      refine WC.skip ?_
                                                                      refine WC.to [4] [(4, .bool (bEq x1 (⟨#[102, 114, 111, 109]⟩ : ByteArray)))] rfl ?_
                                                                      exact J97 ⟨h0, bEq x1 (⟨#[102, 114, 111, 109]⟩ : ByteArray), HF, rfl, S0, Hle.refl _⟩
                                                                    · replace HF := bif_f hb33 HF
                                                                      refine WC.seq ?_
                                                                      refine WC.region ?_
                                                                      refine WL.val rfl rfl rfl (ov_eqlS rfl rfl) ?_
                                                                      refine WL.val rfl rfl rfl (ov_assign rfl) ?_
                                                                      refine WL.nil ?_
                                                                      refine WQ.seqN ?_
                                                                      refine WC.cond (b := bEq x1 (⟨#[102, 117, 110, 99, 116, 105, 111, 110]⟩ : ByteArray)) rfl (fun hb34 => ?_) (fun hb34 => ?_)
                                                                      · replace HF := bif_t hb34 HF
                                                                        refine WC.skip ?_
                                                                        refine WC.to [4] [(4, .bool (bEq x1 (⟨#[102, 117, 110, 99, 116, 105, 111, 110]⟩ : ByteArray)))] rfl ?_
                                                                        exact J97 ⟨h0, bEq x1 (⟨#[102, 117, 110, 99, 116, 105, 111, 110]⟩ : ByteArray), HF, rfl, S0, Hle.refl _⟩
                                                                      · replace HF := bif_f hb34 HF
                                                                        refine WC.seq ?_
                                                                        refine WC.region ?_
                                                                        refine WL.val rfl rfl rfl (ov_eqlS rfl rfl) ?_
                                                                        refine WL.val rfl rfl rfl (ov_assign rfl) ?_
                                                                        refine WL.nil ?_
                                                                        refine WQ.seqN ?_
                                                                        refine WC.cond (b := bEq x1 (⟨#[103, 101]⟩ : ByteArray)) rfl (fun hb35 => ?_) (fun hb35 => ?_)
                                                                        · replace HF := bif_t hb35 HF
                                                                          refine WC.skip ?_
                                                                          refine WC.to [4] [(4, .bool (bEq x1 (⟨#[103, 101]⟩ : ByteArray)))] rfl ?_
                                                                          exact J97 ⟨h0, bEq x1 (⟨#[103, 101]⟩ : ByteArray), HF, rfl, S0, Hle.refl _⟩
                                                                        · replace HF := bif_f hb35 HF
                                                                          refine WC.seq ?_
                                                                          refine WC.region ?_
                                                                          refine WL.val rfl rfl rfl (ov_eqlS rfl rfl) ?_
                                                                          refine WL.val rfl rfl rfl (ov_assign rfl) ?_
                                                                          refine WL.nil ?_
                                                                          refine WQ.seqN ?_
                                                                          refine WC.cond (b := bEq x1 (⟨#[103, 116]⟩ : ByteArray)) rfl (fun hb36 => ?_) (fun hb36 => ?_)
                                                                          · replace HF := bif_t hb36 HF
                                                                            refine WC.skip ?_
                                                                            refine WC.to [4] [(4, .bool (bEq x1 (⟨#[103, 116]⟩ : ByteArray)))] rfl ?_
                                                                            exact J97 ⟨h0, bEq x1 (⟨#[103, 116]⟩ : ByteArray), HF, rfl, S0, Hle.refl _⟩
                                                                          · replace HF := bif_f hb36 HF
                                                                            refine WC.seq ?_
                                                                            refine WC.region ?_
                                                                            refine WL.val rfl rfl rfl (ov_eqlS rfl rfl) ?_
                                                                            refine WL.val rfl rfl rfl (ov_assign rfl) ?_
                                                                            refine WL.nil ?_
                                                                            refine WQ.seqN ?_
                                                                            refine WC.cond (b := bEq x1 (⟨#[105, 102]⟩ : ByteArray)) rfl (fun hb37 => ?_) (fun hb37 => ?_)
                                                                            · replace HF := bif_t hb37 HF
                                                                              refine WC.skip ?_
                                                                              refine WC.to [4] [(4, .bool (bEq x1 (⟨#[105, 102]⟩ : ByteArray)))] rfl ?_
                                                                              exact J97 ⟨h0, bEq x1 (⟨#[105, 102]⟩ : ByteArray), HF, rfl, S0, Hle.refl _⟩
                                                                            · replace HF := bif_f hb37 HF
                                                                              refine WC.seq ?_
                                                                              refine WC.region ?_
                                                                              refine WL.val rfl rfl rfl (ov_eqlS rfl rfl) ?_
                                                                              refine WL.val rfl rfl rfl (ov_assign rfl) ?_
                                                                              refine WL.nil ?_
                                                                              refine WQ.seqN ?_
                                                                              refine WC.cond (b := bEq x1 (⟨#[105, 108]⟩ : ByteArray)) rfl (fun hb38 => ?_) (fun hb38 => ?_)
                                                                              · replace HF := bif_t hb38 HF
                                                                                refine WC.skip ?_
                                                                                refine WC.to [4] [(4, .bool (bEq x1 (⟨#[105, 108]⟩ : ByteArray)))] rfl ?_
                                                                                exact J97 ⟨h0, bEq x1 (⟨#[105, 108]⟩ : ByteArray), HF, rfl, S0, Hle.refl _⟩
                                                                              · replace HF := bif_f hb38 HF
                                                                                refine WC.seq ?_
                                                                                refine WC.region ?_
                                                                                refine WL.val rfl rfl rfl (ov_eqlS rfl rfl) ?_
                                                                                refine WL.val rfl rfl rfl (ov_assign rfl) ?_
                                                                                refine WL.nil ?_
                                                                                refine WQ.seqN ?_
                                                                                refine WC.cond (b := bEq x1 (⟨#[105, 110, 105, 116, 105, 97, 108]⟩ : ByteArray)) rfl (fun hb39 => ?_) (fun hb39 => ?_)
                                                                                · replace HF := bif_t hb39 HF
                                                                                  refine WC.skip ?_
                                                                                  refine WC.to [4] [(4, .bool (bEq x1 (⟨#[105, 110, 105, 116, 105, 97, 108]⟩ : ByteArray)))] rfl ?_
                                                                                  exact J97 ⟨h0, bEq x1 (⟨#[105, 110, 105, 116, 105, 97, 108]⟩ : ByteArray), HF, rfl, S0, Hle.refl _⟩
                                                                                · replace HF := bif_f hb39 HF
                                                                                  refine WC.seq ?_
                                                                                  refine WC.region ?_
                                                                                  refine WL.val rfl rfl rfl (ov_eqlS rfl rfl) ?_
                                                                                  refine WL.val rfl rfl rfl (ov_assign rfl) ?_
                                                                                  refine WL.nil ?_
                                                                                  refine WQ.seqN ?_
                                                                                  refine WC.cond (b := bEq x1 (⟨#[105, 110, 112, 117, 116]⟩ : ByteArray)) rfl (fun hb40 => ?_) (fun hb40 => ?_)
                                                                                  · replace HF := bif_t hb40 HF
                                                                                    refine WC.skip ?_
                                                                                    refine WC.to [4] [(4, .bool (bEq x1 (⟨#[105, 110, 112, 117, 116]⟩ : ByteArray)))] rfl ?_
                                                                                    exact J97 ⟨h0, bEq x1 (⟨#[105, 110, 112, 117, 116]⟩ : ByteArray), HF, rfl, S0, Hle.refl _⟩
                                                                                  · replace HF := bif_f hb40 HF
                                                                                    refine WC.seq ?_
                                                                                    refine WC.region ?_
                                                                                    refine WL.val rfl rfl rfl (ov_eqlS rfl rfl) ?_
                                                                                    refine WL.val rfl rfl rfl (ov_assign rfl) ?_
                                                                                    refine WL.nil ?_
                                                                                    refine WQ.seqN ?_
                                                                                    refine WC.cond (b := bEq x1 (⟨#[105, 110, 116]⟩ : ByteArray)) rfl (fun hb41 => ?_) (fun hb41 => ?_)
                                                                                    · replace HF := bif_t hb41 HF
                                                                                      refine WC.skip ?_
                                                                                      refine WC.to [4] [(4, .bool (bEq x1 (⟨#[105, 110, 116]⟩ : ByteArray)))] rfl ?_
                                                                                      exact J97 ⟨h0, bEq x1 (⟨#[105, 110, 116]⟩ : ByteArray), HF, rfl, S0, Hle.refl _⟩
                                                                                    · replace HF := bif_f hb41 HF
                                                                                      refine WC.seq ?_
                                                                                      refine WC.region ?_
                                                                                      refine WL.val rfl rfl rfl (ov_eqlS rfl rfl) ?_
                                                                                      refine WL.val rfl rfl rfl (ov_assign rfl) ?_
                                                                                      refine WL.nil ?_
                                                                                      refine WQ.seqN ?_
                                                                                      refine WC.cond (b := bEq x1 (⟨#[106, 109, 112]⟩ : ByteArray)) rfl (fun hb42 => ?_) (fun hb42 => ?_)
                                                                                      · replace HF := bif_t hb42 HF
                                                                                        refine WC.skip ?_
                                                                                        refine WC.to [4] [(4, .bool (bEq x1 (⟨#[106, 109, 112]⟩ : ByteArray)))] rfl ?_
                                                                                        exact J97 ⟨h0, bEq x1 (⟨#[106, 109, 112]⟩ : ByteArray), HF, rfl, S0, Hle.refl _⟩
                                                                                      · replace HF := bif_f hb42 HF
                                                                                        refine WC.seq ?_
                                                                                        refine WC.region ?_
                                                                                        refine WL.val rfl rfl rfl (ov_eqlS rfl rfl) ?_
                                                                                        refine WL.val rfl rfl rfl (ov_assign rfl) ?_
                                                                                        refine WL.nil ?_
                                                                                        refine WQ.seqN ?_
                                                                                        refine WC.cond (b := bEq x1 (⟨#[106, 109, 112, 99]⟩ : ByteArray)) rfl (fun hb43 => ?_) (fun hb43 => ?_)
                                                                                        · replace HF := bif_t hb43 HF
                                                                                          refine WC.skip ?_
                                                                                          refine WC.to [4] [(4, .bool (bEq x1 (⟨#[106, 109, 112, 99]⟩ : ByteArray)))] rfl ?_
                                                                                          exact J97 ⟨h0, bEq x1 (⟨#[106, 109, 112, 99]⟩ : ByteArray), HF, rfl, S0, Hle.refl _⟩
                                                                                        · replace HF := bif_f hb43 HF
                                                                                          refine WC.seq ?_
                                                                                          refine WC.region ?_
                                                                                          refine WL.val rfl rfl rfl (ov_eqlS rfl rfl) ?_
                                                                                          refine WL.val rfl rfl rfl (ov_assign rfl) ?_
                                                                                          refine WL.nil ?_
                                                                                          refine WQ.seqN ?_
                                                                                          refine WC.cond (b := bEq x1 (⟨#[106, 109, 112, 99, 110]⟩ : ByteArray)) rfl (fun hb44 => ?_) (fun hb44 => ?_)
                                                                                          · replace HF := bif_t hb44 HF
                                                                                            refine WC.skip ?_
                                                                                            refine WC.to [4] [(4, .bool (bEq x1 (⟨#[106, 109, 112, 99, 110]⟩ : ByteArray)))] rfl ?_
                                                                                            exact J97 ⟨h0, bEq x1 (⟨#[106, 109, 112, 99, 110]⟩ : ByteArray), HF, rfl, S0, Hle.refl _⟩
                                                                                          · replace HF := bif_f hb44 HF
                                                                                            refine WC.seq ?_
                                                                                            refine WC.region ?_
                                                                                            refine WL.val rfl rfl rfl (ov_eqlS rfl rfl) ?_
                                                                                            refine WL.val rfl rfl rfl (ov_assign rfl) ?_
                                                                                            refine WL.nil ?_
                                                                                            refine WQ.seqN ?_
                                                                                            refine WC.cond (b := bEq x1 (⟨#[106, 117, 109, 112]⟩ : ByteArray)) rfl (fun hb45 => ?_) (fun hb45 => ?_)
                                                                                            · replace HF := bif_t hb45 HF
                                                                                              refine WC.skip ?_
                                                                                              refine WC.to [4] [(4, .bool (bEq x1 (⟨#[106, 117, 109, 112]⟩ : ByteArray)))] rfl ?_
                                                                                              exact J97 ⟨h0, bEq x1 (⟨#[106, 117, 109, 112]⟩ : ByteArray), HF, rfl, S0, Hle.refl _⟩
                                                                                            · replace HF := bif_f hb45 HF
                                                                                              refine WC.seq ?_
                                                                                              refine WC.region ?_
                                                                                              refine WL.val rfl rfl rfl (ov_eqlS rfl rfl) ?_
                                                                                              refine WL.val rfl rfl rfl (ov_assign rfl) ?_
                                                                                              refine WL.nil ?_
                                                                                              refine WQ.seqN ?_
                                                                                              refine WC.cond (b := bEq x1 (⟨#[108, 100]⟩ : ByteArray)) rfl (fun hb46 => ?_) (fun hb46 => ?_)
                                                                                              · replace HF := bif_t hb46 HF
                                                                                                refine WC.skip ?_
                                                                                                refine WC.to [4] [(4, .bool (bEq x1 (⟨#[108, 100]⟩ : ByteArray)))] rfl ?_
                                                                                                exact J97 ⟨h0, bEq x1 (⟨#[108, 100]⟩ : ByteArray), HF, rfl, S0, Hle.refl _⟩
                                                                                              · replace HF := bif_f hb46 HF
                                                                                                refine WC.seq ?_
                                                                                                refine WC.region ?_
                                                                                                refine WL.val rfl rfl rfl (ov_eqlS rfl rfl) ?_
                                                                                                refine WL.val rfl rfl rfl (ov_assign rfl) ?_
                                                                                                refine WL.nil ?_
                                                                                                refine WQ.seqN ?_
                                                                                                refine WC.cond (b := bEq x1 (⟨#[108, 100, 110]⟩ : ByteArray)) rfl (fun hb47 => ?_) (fun hb47 => ?_)
                                                                                                · replace HF := bif_t hb47 HF
                                                                                                  refine WC.skip ?_
                                                                                                  refine WC.to [4] [(4, .bool (bEq x1 (⟨#[108, 100, 110]⟩ : ByteArray)))] rfl ?_
                                                                                                  exact J97 ⟨h0, bEq x1 (⟨#[108, 100, 110]⟩ : ByteArray), HF, rfl, S0, Hle.refl _⟩
                                                                                                · replace HF := bif_f hb47 HF
                                                                                                  refine WC.seq ?_
                                                                                                  refine WC.region ?_
                                                                                                  refine WL.val rfl rfl rfl (ov_eqlS rfl rfl) ?_
                                                                                                  refine WL.val rfl rfl rfl (ov_assign rfl) ?_
                                                                                                  refine WL.nil ?_
                                                                                                  refine WQ.seqN ?_
                                                                                                  refine WC.cond (b := bEq x1 (⟨#[108, 101]⟩ : ByteArray)) rfl (fun hb48 => ?_) (fun hb48 => ?_)
                                                                                                  · replace HF := bif_t hb48 HF
                                                                                                    refine WC.skip ?_
                                                                                                    refine WC.to [4] [(4, .bool (bEq x1 (⟨#[108, 101]⟩ : ByteArray)))] rfl ?_
                                                                                                    exact J97 ⟨h0, bEq x1 (⟨#[108, 101]⟩ : ByteArray), HF, rfl, S0, Hle.refl _⟩
                                                                                                  · replace HF := bif_f hb48 HF
                                                                                                    refine WC.seq ?_
                                                                                                    refine WC.region ?_
                                                                                                    refine WL.val rfl rfl rfl (ov_eqlS rfl rfl) ?_
                                                                                                    refine WL.val rfl rfl rfl (ov_assign rfl) ?_
                                                                                                    refine WL.nil ?_
                                                                                                    refine WQ.seqN ?_
                                                                                                    refine WC.cond (b := bEq x1 (⟨#[108, 101, 97, 118, 101]⟩ : ByteArray)) rfl (fun hb49 => ?_) (fun hb49 => ?_)
                                                                                                    · replace HF := bif_t hb49 HF
                                                                                                      refine WC.skip ?_
                                                                                                      refine WC.to [4] [(4, .bool (bEq x1 (⟨#[108, 101, 97, 118, 101]⟩ : ByteArray)))] rfl ?_
                                                                                                      exact J97 ⟨h0, bEq x1 (⟨#[108, 101, 97, 118, 101]⟩ : ByteArray), HF, rfl, S0, Hle.refl _⟩
                                                                                                    · replace HF := bif_f hb49 HF
                                                                                                      refine WC.seq ?_
                                                                                                      refine WC.region ?_
                                                                                                      refine WL.val rfl rfl rfl (ov_eqlS rfl rfl) ?_
                                                                                                      refine WL.val rfl rfl rfl (ov_assign rfl) ?_
                                                                                                      refine WL.nil ?_
                                                                                                      refine WQ.seqN ?_
                                                                                                      refine WC.cond (b := bEq x1 (⟨#[108, 105, 109, 105, 116, 95]⟩ : ByteArray)) rfl (fun hb50 => ?_) (fun hb50 => ?_)
                                                                                                      · replace HF := bif_t hb50 HF
                                                                                                        refine WC.skip ?_
                                                                                                        refine WC.to [4] [(4, .bool (bEq x1 (⟨#[108, 105, 109, 105, 116, 95]⟩ : ByteArray)))] rfl ?_
                                                                                                        exact J97 ⟨h0, bEq x1 (⟨#[108, 105, 109, 105, 116, 95]⟩ : ByteArray), HF, rfl, S0, Hle.refl _⟩
                                                                                                      · replace HF := bif_f hb50 HF
                                                                                                        refine WC.seq ?_
                                                                                                        refine WC.region ?_
                                                                                                        refine WL.val rfl rfl rfl (ov_eqlS rfl rfl) ?_
                                                                                                        refine WL.val rfl rfl rfl (ov_assign rfl) ?_
                                                                                                        refine WL.nil ?_
                                                                                                        refine WQ.seqN ?_
                                                                                                        refine WC.cond (b := bEq x1 (⟨#[108, 111, 99, 97, 108]⟩ : ByteArray)) rfl (fun hb51 => ?_) (fun hb51 => ?_)
                                                                                                        · replace HF := bif_t hb51 HF
                                                                                                          refine WC.skip ?_
                                                                                                          refine WC.to [4] [(4, .bool (bEq x1 (⟨#[108, 111, 99, 97, 108]⟩ : ByteArray)))] rfl ?_
                                                                                                          exact J97 ⟨h0, bEq x1 (⟨#[108, 111, 99, 97, 108]⟩ : ByteArray), HF, rfl, S0, Hle.refl _⟩
                                                                                                        · replace HF := bif_f hb51 HF
                                                                                                          refine WC.seq ?_
                                                                                                          refine WC.region ?_
                                                                                                          refine WL.val rfl rfl rfl (ov_eqlS rfl rfl) ?_
                                                                                                          refine WL.val rfl rfl rfl (ov_assign rfl) ?_
                                                                                                          refine WL.nil ?_
                                                                                                          refine WQ.seqN ?_
                                                                                                          refine WC.cond (b := bEq x1 (⟨#[108, 116]⟩ : ByteArray)) rfl (fun hb52 => ?_) (fun hb52 => ?_)
                                                                                                          · replace HF := bif_t hb52 HF
                                                                                                            refine WC.skip ?_
                                                                                                            refine WC.to [4] [(4, .bool (bEq x1 (⟨#[108, 116]⟩ : ByteArray)))] rfl ?_
                                                                                                            exact J97 ⟨h0, bEq x1 (⟨#[108, 116]⟩ : ByteArray), HF, rfl, S0, Hle.refl _⟩
                                                                                                          · replace HF := bif_f hb52 HF
                                                                                                            refine WC.seq ?_
                                                                                                            refine WC.region ?_
                                                                                                            refine WL.val rfl rfl rfl (ov_eqlS rfl rfl) ?_
                                                                                                            refine WL.val rfl rfl rfl (ov_assign rfl) ?_
                                                                                                            refine WL.nil ?_
                                                                                                            refine WQ.seqN ?_
                                                                                                            refine WC.cond (b := bEq x1 (⟨#[109, 97, 99, 114, 111]⟩ : ByteArray)) rfl (fun hb53 => ?_) (fun hb53 => ?_)
                                                                                                            · replace HF := bif_t hb53 HF
                                                                                                              refine WC.skip ?_
                                                                                                              refine WC.to [4] [(4, .bool (bEq x1 (⟨#[109, 97, 99, 114, 111]⟩ : ByteArray)))] rfl ?_
                                                                                                              exact J97 ⟨h0, bEq x1 (⟨#[109, 97, 99, 114, 111]⟩ : ByteArray), HF, rfl, S0, Hle.refl _⟩
                                                                                                            · replace HF := bif_f hb53 HF
                                                                                                              refine WC.seq ?_
                                                                                                              refine WC.region ?_
                                                                                                              refine WL.val rfl rfl rfl (ov_eqlS rfl rfl) ?_
                                                                                                              refine WL.val rfl rfl rfl (ov_assign rfl) ?_
                                                                                                              refine WL.nil ?_
                                                                                                              refine WQ.seqN ?_
                                                                                                              refine WC.cond (b := bEq x1 (⟨#[109, 111, 100]⟩ : ByteArray)) rfl (fun hb54 => ?_) (fun hb54 => ?_)
                                                                                                              · replace HF := bif_t hb54 HF
                                                                                                                refine WC.skip ?_
                                                                                                                refine WC.to [4] [(4, .bool (bEq x1 (⟨#[109, 111, 100]⟩ : ByteArray)))] rfl ?_
                                                                                                                exact J97 ⟨h0, bEq x1 (⟨#[109, 111, 100]⟩ : ByteArray), HF, rfl, S0, Hle.refl _⟩
                                                                                                              · replace HF := bif_f hb54 HF
                                                                                                                refine WC.seq ?_
                                                                                                                refine WC.region ?_
                                                                                                                refine WL.val rfl rfl rfl (ov_eqlS rfl rfl) ?_
                                                                                                                refine WL.val rfl rfl rfl (ov_assign rfl) ?_
                                                                                                                refine WL.nil ?_
                                                                                                                refine WQ.seqN ?_
                                                                                                                refine WC.cond (b := bEq x1 (⟨#[109, 117, 108]⟩ : ByteArray)) rfl (fun hb55 => ?_) (fun hb55 => ?_)
                                                                                                                · replace HF := bif_t hb55 HF
                                                                                                                  refine WC.skip ?_
                                                                                                                  refine WC.to [4] [(4, .bool (bEq x1 (⟨#[109, 117, 108]⟩ : ByteArray)))] rfl ?_
                                                                                                                  exact J97 ⟨h0, bEq x1 (⟨#[109, 117, 108]⟩ : ByteArray), HF, rfl, S0, Hle.refl _⟩
                                                                                                                · replace HF := bif_f hb55 HF
                                                                                                                  refine WC.seq ?_
                                                                                                                  refine WC.region ?_
                                                                                                                  refine WL.val rfl rfl rfl (ov_eqlS rfl rfl) ?_
                                                                                                                  refine WL.val rfl rfl rfl (ov_assign rfl) ?_
                                                                                                                  refine WL.nil ?_
                                                                                                                  refine WQ.seqN ?_
                                                                                                                  refine WC.cond (b := bEq x1 (⟨#[110, 101]⟩ : ByteArray)) rfl (fun hb56 => ?_) (fun hb56 => ?_)
                                                                                                                  · replace HF := bif_t hb56 HF
                                                                                                                    refine WC.skip ?_
                                                                                                                    refine WC.to [4] [(4, .bool (bEq x1 (⟨#[110, 101]⟩ : ByteArray)))] rfl ?_
                                                                                                                    exact J97 ⟨h0, bEq x1 (⟨#[110, 101]⟩ : ByteArray), HF, rfl, S0, Hle.refl _⟩
                                                                                                                  · replace HF := bif_f hb56 HF
                                                                                                                    refine WC.seq ?_
                                                                                                                    refine WC.region ?_
                                                                                                                    refine WL.val rfl rfl rfl (ov_eqlS rfl rfl) ?_
                                                                                                                    refine WL.val rfl rfl rfl (ov_assign rfl) ?_
                                                                                                                    refine WL.nil ?_
                                                                                                                    refine WQ.seqN ?_
                                                                                                                    refine WC.cond (b := bEq x1 (⟨#[110, 111, 116]⟩ : ByteArray)) rfl (fun hb57 => ?_) (fun hb57 => ?_)
                                                                                                                    · replace HF := bif_t hb57 HF
                                                                                                                      refine WC.skip ?_
                                                                                                                      refine WC.to [4] [(4, .bool (bEq x1 (⟨#[110, 111, 116]⟩ : ByteArray)))] rfl ?_
                                                                                                                      exact J97 ⟨h0, bEq x1 (⟨#[110, 111, 116]⟩ : ByteArray), HF, rfl, S0, Hle.refl _⟩
                                                                                                                    · replace HF := bif_f hb57 HF
                                                                                                                      refine WC.seq ?_
                                                                                                                      refine WC.region ?_
                                                                                                                      refine WL.val rfl rfl rfl (ov_eqlS rfl rfl) ?_
                                                                                                                      refine WL.val rfl rfl rfl (ov_assign rfl) ?_
                                                                                                                      refine WL.nil ?_
                                                                                                                      refine WQ.seqN ?_
                                                                                                                      refine WC.cond (b := bEq x1 (⟨#[111, 102]⟩ : ByteArray)) rfl (fun hb58 => ?_) (fun hb58 => ?_)
                                                                                                                      · replace HF := bif_t hb58 HF
                                                                                                                        refine WC.skip ?_
                                                                                                                        refine WC.to [4] [(4, .bool (bEq x1 (⟨#[111, 102]⟩ : ByteArray)))] rfl ?_
                                                                                                                        exact J97 ⟨h0, bEq x1 (⟨#[111, 102]⟩ : ByteArray), HF, rfl, S0, Hle.refl _⟩
                                                                                                                      · replace HF := bif_f hb58 HF
                                                                                                                        refine WC.seq ?_
                                                                                                                        refine WC.region ?_
                                                                                                                        refine WL.val rfl rfl rfl (ov_eqlS rfl rfl) ?_
                                                                                                                        refine WL.val rfl rfl rfl (ov_assign rfl) ?_
                                                                                                                        refine WL.nil ?_
                                                                                                                        refine WQ.seqN ?_
                                                                                                                        refine WC.cond (b := bEq x1 (⟨#[111, 114]⟩ : ByteArray)) rfl (fun hb59 => ?_) (fun hb59 => ?_)
                                                                                                                        · replace HF := bif_t hb59 HF
                                                                                                                          refine WC.skip ?_
                                                                                                                          refine WC.to [4] [(4, .bool (bEq x1 (⟨#[111, 114]⟩ : ByteArray)))] rfl ?_
                                                                                                                          exact J97 ⟨h0, bEq x1 (⟨#[111, 114]⟩ : ByteArray), HF, rfl, S0, Hle.refl _⟩
                                                                                                                        · replace HF := bif_f hb59 HF
                                                                                                                          refine WC.seq ?_
                                                                                                                          refine WC.region ?_
                                                                                                                          refine WL.val rfl rfl rfl (ov_eqlS rfl rfl) ?_
                                                                                                                          refine WL.val rfl rfl rfl (ov_assign rfl) ?_
                                                                                                                          refine WL.nil ?_
                                                                                                                          refine WQ.seqN ?_
                                                                                                                          refine WC.cond (b := bEq x1 (⟨#[111, 114, 110]⟩ : ByteArray)) rfl (fun hb60 => ?_) (fun hb60 => ?_)
                                                                                                                          · replace HF := bif_t hb60 HF
                                                                                                                            refine WC.skip ?_
                                                                                                                            refine WC.to [4] [(4, .bool (bEq x1 (⟨#[111, 114, 110]⟩ : ByteArray)))] rfl ?_
                                                                                                                            exact J97 ⟨h0, bEq x1 (⟨#[111, 114, 110]⟩ : ByteArray), HF, rfl, S0, Hle.refl _⟩
                                                                                                                          · replace HF := bif_f hb60 HF
                                                                                                                            refine WC.seq ?_
                                                                                                                            refine WC.region ?_
                                                                                                                            refine WL.val rfl rfl rfl (ov_eqlS rfl rfl) ?_
                                                                                                                            refine WL.val rfl rfl rfl (ov_assign rfl) ?_
                                                                                                                            refine WL.nil ?_
                                                                                                                            refine WQ.seqN ?_
                                                                                                                            refine WC.cond (b := bEq x1 (⟨#[111, 117, 116, 112, 117, 116]⟩ : ByteArray)) rfl (fun hb61 => ?_) (fun hb61 => ?_)
                                                                                                                            · replace HF := bif_t hb61 HF
                                                                                                                              refine WC.skip ?_
                                                                                                                              refine WC.to [4] [(4, .bool (bEq x1 (⟨#[111, 117, 116, 112, 117, 116]⟩ : ByteArray)))] rfl ?_
                                                                                                                              exact J97 ⟨h0, bEq x1 (⟨#[111, 117, 116, 112, 117, 116]⟩ : ByteArray), HF, rfl, S0, Hle.refl _⟩
                                                                                                                            · replace HF := bif_f hb61 HF
                                                                                                                              refine WC.seq ?_
                                                                                                                              refine WC.region ?_
                                                                                                                              refine WL.val rfl rfl rfl (ov_eqlS rfl rfl) ?_
                                                                                                                              refine WL.val rfl rfl rfl (ov_assign rfl) ?_
                                                                                                                              refine WL.nil ?_
                                                                                                                              refine WQ.seqN ?_
                                                                                                                              refine WC.cond (b := bEq x1 (⟨#[112, 104, 97, 115, 101]⟩ : ByteArray)) rfl (fun hb62 => ?_) (fun hb62 => ?_)
                                                                                                                              · replace HF := bif_t hb62 HF
                                                                                                                                refine WC.skip ?_
                                                                                                                                refine WC.to [4] [(4, .bool (bEq x1 (⟨#[112, 104, 97, 115, 101]⟩ : ByteArray)))] rfl ?_
                                                                                                                                exact J97 ⟨h0, bEq x1 (⟨#[112, 104, 97, 115, 101]⟩ : ByteArray), HF, rfl, S0, Hle.refl _⟩
                                                                                                                              · replace HF := bif_f hb62 HF
                                                                                                                                refine WC.seq ?_
                                                                                                                                refine WC.region ?_
                                                                                                                                refine WL.val rfl rfl rfl (ov_eqlS rfl rfl) ?_
                                                                                                                                refine WL.val rfl rfl rfl (ov_assign rfl) ?_
                                                                                                                                refine WL.nil ?_
                                                                                                                                refine WQ.seqN ?_
                                                                                                                                refine WC.cond (b := bEq x1 (⟨#[112, 114, 105, 111, 114, 105, 116, 121]⟩ : ByteArray)) rfl (fun hb63 => ?_) (fun hb63 => ?_)
                                                                                                                                · replace HF := bif_t hb63 HF
                                                                                                                                  refine WC.skip ?_
                                                                                                                                  refine WC.to [4] [(4, .bool (bEq x1 (⟨#[112, 114, 105, 111, 114, 105, 116, 121]⟩ : ByteArray)))] rfl ?_
                                                                                                                                  exact J97 ⟨h0, bEq x1 (⟨#[112, 114, 105, 111, 114, 105, 116, 121]⟩ : ByteArray), HF, rfl, S0, Hle.refl _⟩
                                                                                                                                · replace HF := bif_f hb63 HF
                                                                                                                                  refine WC.seq ?_
                                                                                                                                  refine WC.region ?_
                                                                                                                                  refine WL.val rfl rfl rfl (ov_eqlS rfl rfl) ?_
                                                                                                                                  refine WL.val rfl rfl rfl (ov_assign rfl) ?_
                                                                                                                                  refine WL.nil ?_
                                                                                                                                  refine WQ.seqN ?_
                                                                                                                                  refine WC.cond (b := bEq x1 (⟨#[112, 114, 111, 103, 114, 97, 109]⟩ : ByteArray)) rfl (fun hb64 => ?_) (fun hb64 => ?_)
                                                                                                                                  · replace HF := bif_t hb64 HF
                                                                                                                                    refine WC.skip ?_
                                                                                                                                    refine WC.to [4] [(4, .bool (bEq x1 (⟨#[112, 114, 111, 103, 114, 97, 109]⟩ : ByteArray)))] rfl ?_
                                                                                                                                    exact J97 ⟨h0, bEq x1 (⟨#[112, 114, 111, 103, 114, 97, 109]⟩ : ByteArray), HF, rfl, S0, Hle.refl _⟩
                                                                                                                                  · replace HF := bif_f hb64 HF
                                                                                                                                    refine WC.seq ?_
                                                                                                                                    refine WC.region ?_
                                                                                                                                    refine WL.val rfl rfl rfl (ov_eqlS rfl rfl) ?_
                                                                                                                                    refine WL.val rfl rfl rfl (ov_assign rfl) ?_
                                                                                                                                    refine WL.nil ?_
                                                                                                                                    refine WQ.seqN ?_
                                                                                                                                    refine WC.cond (b := bEq x1 (⟨#[114, 101, 112, 101, 97, 116]⟩ : ByteArray)) rfl (fun hb65 => ?_) (fun hb65 => ?_)
                                                                                                                                    · replace HF := bif_t hb65 HF
                                                                                                                                      refine WC.skip ?_
                                                                                                                                      refine WC.to [4] [(4, .bool (bEq x1 (⟨#[114, 101, 112, 101, 97, 116]⟩ : ByteArray)))] rfl ?_
                                                                                                                                      exact J97 ⟨h0, bEq x1 (⟨#[114, 101, 112, 101, 97, 116]⟩ : ByteArray), HF, rfl, S0, Hle.refl _⟩
                                                                                                                                    · replace HF := bif_f hb65 HF
                                                                                                                                      refine WC.seq ?_
                                                                                                                                      refine WC.region ?_
                                                                                                                                      refine WL.val rfl rfl rfl (ov_eqlS rfl rfl) ?_
                                                                                                                                      refine WL.val rfl rfl rfl (ov_assign rfl) ?_
                                                                                                                                      refine WL.nil ?_
                                                                                                                                      refine WQ.seqN ?_
                                                                                                                                      refine WC.cond (b := bEq x1 (⟨#[114, 101, 115, 101, 116]⟩ : ByteArray)) rfl (fun hb66 => ?_) (fun hb66 => ?_)
                                                                                                                                      · replace HF := bif_t hb66 HF
                                                                                                                                        refine WC.skip ?_
                                                                                                                                        refine WC.to [4] [(4, .bool (bEq x1 (⟨#[114, 101, 115, 101, 116]⟩ : ByteArray)))] rfl ?_
                                                                                                                                        exact J97 ⟨h0, bEq x1 (⟨#[114, 101, 115, 101, 116]⟩ : ByteArray), HF, rfl, S0, Hle.refl _⟩
                                                                                                                                      · replace HF := bif_f hb66 HF
                                                                                                                                        refine WC.seq ?_
                                                                                                                                        refine WC.region ?_
                                                                                                                                        refine WL.val rfl rfl rfl (ov_eqlS rfl rfl) ?_
                                                                                                                                        refine WL.val rfl rfl rfl (ov_assign rfl) ?_
                                                                                                                                        refine WL.nil ?_
                                                                                                                                        refine WQ.seqN ?_
                                                                                                                                        refine WC.cond (b := bEq x1 (⟨#[114, 101, 116]⟩ : ByteArray)) rfl (fun hb67 => ?_) (fun hb67 => ?_)
                                                                                                                                        · replace HF := bif_t hb67 HF
                                                                                                                                          refine WC.skip ?_
                                                                                                                                          refine WC.to [4] [(4, .bool (bEq x1 (⟨#[114, 101, 116]⟩ : ByteArray)))] rfl ?_
                                                                                                                                          exact J97 ⟨h0, bEq x1 (⟨#[114, 101, 116]⟩ : ByteArray), HF, rfl, S0, Hle.refl _⟩
                                                                                                                                        · replace HF := bif_f hb67 HF
                                                                                                                                          refine WC.seq ?_
                                                                                                                                          refine WC.region ?_
                                                                                                                                          refine WL.val rfl rfl rfl (ov_eqlS rfl rfl) ?_
                                                                                                                                          refine WL.val rfl rfl rfl (ov_assign rfl) ?_
                                                                                                                                          refine WL.nil ?_
                                                                                                                                          refine WQ.seqN ?_
                                                                                                                                          refine WC.cond (b := bEq x1 (⟨#[114, 101, 116, 97, 105, 110]⟩ : ByteArray)) rfl (fun hb68 => ?_) (fun hb68 => ?_)
                                                                                                                                          · replace HF := bif_t hb68 HF
                                                                                                                                            refine WC.skip ?_
                                                                                                                                            refine WC.to [4] [(4, .bool (bEq x1 (⟨#[114, 101, 116, 97, 105, 110]⟩ : ByteArray)))] rfl ?_
                                                                                                                                            exact J97 ⟨h0, bEq x1 (⟨#[114, 101, 116, 97, 105, 110]⟩ : ByteArray), HF, rfl, S0, Hle.refl _⟩
                                                                                                                                          · replace HF := bif_f hb68 HF
                                                                                                                                            refine WC.seq ?_
                                                                                                                                            refine WC.region ?_
                                                                                                                                            refine WL.val rfl rfl rfl (ov_eqlS rfl rfl) ?_
                                                                                                                                            refine WL.val rfl rfl rfl (ov_assign rfl) ?_
                                                                                                                                            refine WL.nil ?_
                                                                                                                                            refine WQ.seqN ?_
                                                                                                                                            refine WC.cond (b := bEq x1 (⟨#[114, 101, 116, 99]⟩ : ByteArray)) rfl (fun hb69 => ?_) (fun hb69 => ?_)
                                                                                                                                            · replace HF := bif_t hb69 HF
                                                                                                                                              refine WC.skip ?_
                                                                                                                                              refine WC.to [4] [(4, .bool (bEq x1 (⟨#[114, 101, 116, 99]⟩ : ByteArray)))] rfl ?_
                                                                                                                                              exact J97 ⟨h0, bEq x1 (⟨#[114, 101, 116, 99]⟩ : ByteArray), HF, rfl, S0, Hle.refl _⟩
                                                                                                                                            · replace HF := bif_f hb69 HF
                                                                                                                                              refine WC.seq ?_
                                                                                                                                              refine WC.region ?_
                                                                                                                                              refine WL.val rfl rfl rfl (ov_eqlS rfl rfl) ?_
                                                                                                                                              refine WL.val rfl rfl rfl (ov_assign rfl) ?_
                                                                                                                                              refine WL.nil ?_
                                                                                                                                              refine WQ.seqN ?_
                                                                                                                                              refine WC.cond (b := bEq x1 (⟨#[114, 101, 116, 99, 110]⟩ : ByteArray)) rfl (fun hb70 => ?_) (fun hb70 => ?_)
                                                                                                                                              · replace HF := bif_t hb70 HF
                                                                                                                                                refine WC.skip ?_
                                                                                                                                                refine WC.to [4] [(4, .bool (bEq x1 (⟨#[114, 101, 116, 99, 110]⟩ : ByteArray)))] rfl ?_
                                                                                                                                                exact J97 ⟨h0, bEq x1 (⟨#[114, 101, 116, 99, 110]⟩ : ByteArray), HF, rfl, S0, Hle.refl _⟩
                                                                                                                                              · replace HF := bif_f hb70 HF
                                                                                                                                                refine WC.seq ?_
                                                                                                                                                refine WC.region ?_
                                                                                                                                                refine WL.val rfl rfl rfl (ov_eqlS rfl rfl) ?_
                                                                                                                                                refine WL.val rfl rfl rfl (ov_assign rfl) ?_
                                                                                                                                                refine WL.nil ?_
                                                                                                                                                refine WQ.seqN ?_
                                                                                                                                                refine WC.cond (b := bEq x1 (⟨#[114, 101, 116, 117, 114, 110]⟩ : ByteArray)) rfl (fun hb71 => ?_) (fun hb71 => ?_)
                                                                                                                                                · replace HF := bif_t hb71 HF
                                                                                                                                                  refine WC.skip ?_
                                                                                                                                                  refine WC.to [4] [(4, .bool (bEq x1 (⟨#[114, 101, 116, 117, 114, 110]⟩ : ByteArray)))] rfl ?_
                                                                                                                                                  exact J97 ⟨h0, bEq x1 (⟨#[114, 101, 116, 117, 114, 110]⟩ : ByteArray), HF, rfl, S0, Hle.refl _⟩
                                                                                                                                                · replace HF := bif_f hb71 HF
                                                                                                                                                  refine WC.seq ?_
                                                                                                                                                  refine WC.region ?_
                                                                                                                                                  refine WL.val rfl rfl rfl (ov_eqlS rfl rfl) ?_
                                                                                                                                                  refine WL.val rfl rfl rfl (ov_assign rfl) ?_
                                                                                                                                                  refine WL.nil ?_
                                                                                                                                                  refine WQ.seqN ?_
                                                                                                                                                  refine WC.cond (b := bEq x1 (⟨#[114, 105, 115, 101]⟩ : ByteArray)) rfl (fun hb72 => ?_) (fun hb72 => ?_)
                                                                                                                                                  · replace HF := bif_t hb72 HF
                                                                                                                                                    refine WC.skip ?_
                                                                                                                                                    refine WC.to [4] [(4, .bool (bEq x1 (⟨#[114, 105, 115, 101]⟩ : ByteArray)))] rfl ?_
                                                                                                                                                    exact J97 ⟨h0, bEq x1 (⟨#[114, 105, 115, 101]⟩ : ByteArray), HF, rfl, S0, Hle.refl _⟩
                                                                                                                                                  · replace HF := bif_f hb72 HF
                                                                                                                                                    refine WC.seq ?_
                                                                                                                                                    refine WC.region ?_
                                                                                                                                                    refine WL.val rfl rfl rfl (ov_eqlS rfl rfl) ?_
                                                                                                                                                    refine WL.val rfl rfl rfl (ov_assign rfl) ?_
                                                                                                                                                    refine WL.nil ?_
                                                                                                                                                    refine WQ.seqN ?_
                                                                                                                                                    refine WC.cond (b := bEq x1 (⟨#[114, 117, 110]⟩ : ByteArray)) rfl (fun hb73 => ?_) (fun hb73 => ?_)
                                                                                                                                                    · replace HF := bif_t hb73 HF
                                                                                                                                                      refine WC.skip ?_
                                                                                                                                                      refine WC.to [4] [(4, .bool (bEq x1 (⟨#[114, 117, 110]⟩ : ByteArray)))] rfl ?_
                                                                                                                                                      exact J97 ⟨h0, bEq x1 (⟨#[114, 117, 110]⟩ : ByteArray), HF, rfl, S0, Hle.refl _⟩
                                                                                                                                                    · replace HF := bif_f hb73 HF
                                                                                                                                                      refine WC.seq ?_
                                                                                                                                                      refine WC.region ?_
                                                                                                                                                      refine WL.val rfl rfl rfl (ov_eqlS rfl rfl) ?_
                                                                                                                                                      refine WL.val rfl rfl rfl (ov_assign rfl) ?_
                                                                                                                                                      refine WL.nil ?_
                                                                                                                                                      refine WQ.seqN ?_
                                                                                                                                                      refine WC.cond (b := bEq x1 (⟨#[114, 117, 110, 103]⟩ : ByteArray)) rfl (fun hb74 => ?_) (fun hb74 => ?_)
                                                                                                                                                      · replace HF := bif_t hb74 HF
                                                                                                                                                        refine WC.skip ?_
                                                                                                                                                        refine WC.to [4] [(4, .bool (bEq x1 (⟨#[114, 117, 110, 103]⟩ : ByteArray)))] rfl ?_
                                                                                                                                                        exact J97 ⟨h0, bEq x1 (⟨#[114, 117, 110, 103]⟩ : ByteArray), HF, rfl, S0, Hle.refl _⟩
                                                                                                                                                      · replace HF := bif_f hb74 HF
                                                                                                                                                        refine WC.seq ?_
                                                                                                                                                        refine WC.region ?_
                                                                                                                                                        refine WL.val rfl rfl rfl (ov_eqlS rfl rfl) ?_
                                                                                                                                                        refine WL.val rfl rfl rfl (ov_assign rfl) ?_
                                                                                                                                                        refine WL.nil ?_
                                                                                                                                                        refine WQ.seqN ?_
                                                                                                                                                        refine WC.cond (b := bEq x1 (⟨#[115, 101, 116]⟩ : ByteArray)) rfl (fun hb75 => ?_) (fun hb75 => ?_)
                                                                                                                                                        · replace HF := bif_t hb75 HF
                                                                                                                                                          refine WC.skip ?_
                                                                                                                                                          refine WC.to [4] [(4, .bool (bEq x1 (⟨#[115, 101, 116]⟩ : ByteArray)))] rfl ?_
                                                                                                                                                          exact J97 ⟨h0, bEq x1 (⟨#[115, 101, 116]⟩ : ByteArray), HF, rfl, S0, Hle.refl _⟩
                                                                                                                                                        · replace HF := bif_f hb75 HF
                                                                                                                                                          refine WC.seq ?_
                                                                                                                                                          refine WC.region ?_
                                                                                                                                                          refine WL.val rfl rfl rfl (ov_eqlS rfl rfl) ?_
                                                                                                                                                          refine WL.val rfl rfl rfl (ov_assign rfl) ?_
                                                                                                                                                          refine WL.nil ?_
                                                                                                                                                          refine WQ.seqN ?_
                                                                                                                                                          refine WC.cond (b := bEq x1 (⟨#[115, 102, 99]⟩ : ByteArray)) rfl (fun hb76 => ?_) (fun hb76 => ?_)
                                                                                                                                                          · replace HF := bif_t hb76 HF
                                                                                                                                                            refine WC.skip ?_
                                                                                                                                                            refine WC.to [4] [(4, .bool (bEq x1 (⟨#[115, 102, 99]⟩ : ByteArray)))] rfl ?_
                                                                                                                                                            exact J97 ⟨h0, bEq x1 (⟨#[115, 102, 99]⟩ : ByteArray), HF, rfl, S0, Hle.refl _⟩
                                                                                                                                                          · replace HF := bif_f hb76 HF
                                                                                                                                                            refine WC.seq ?_
                                                                                                                                                            refine WC.region ?_
                                                                                                                                                            refine WL.val rfl rfl rfl (ov_eqlS rfl rfl) ?_
                                                                                                                                                            refine WL.val rfl rfl rfl (ov_assign rfl) ?_
                                                                                                                                                            refine WL.nil ?_
                                                                                                                                                            refine WQ.seqN ?_
                                                                                                                                                            refine WC.cond (b := bEq x1 (⟨#[115, 116]⟩ : ByteArray)) rfl (fun hb77 => ?_) (fun hb77 => ?_)
                                                                                                                                                            · replace HF := bif_t hb77 HF
                                                                                                                                                              refine WC.skip ?_
                                                                                                                                                              refine WC.to [4] [(4, .bool (bEq x1 (⟨#[115, 116]⟩ : ByteArray)))] rfl ?_
                                                                                                                                                              exact J97 ⟨h0, bEq x1 (⟨#[115, 116]⟩ : ByteArray), HF, rfl, S0, Hle.refl _⟩
                                                                                                                                                            · replace HF := bif_f hb77 HF
                                                                                                                                                              refine WC.seq ?_
                                                                                                                                                              refine WC.region ?_
                                                                                                                                                              refine WL.val rfl rfl rfl (ov_eqlS rfl rfl) ?_
                                                                                                                                                              refine WL.val rfl rfl rfl (ov_assign rfl) ?_
                                                                                                                                                              refine WL.nil ?_
                                                                                                                                                              refine WQ.seqN ?_
                                                                                                                                                              refine WC.cond (b := bEq x1 (⟨#[115, 116, 101, 112]⟩ : ByteArray)) rfl (fun hb78 => ?_) (fun hb78 => ?_)
                                                                                                                                                              · replace HF := bif_t hb78 HF
                                                                                                                                                                refine WC.skip ?_
                                                                                                                                                                refine WC.to [4] [(4, .bool (bEq x1 (⟨#[115, 116, 101, 112]⟩ : ByteArray)))] rfl ?_
                                                                                                                                                                exact J97 ⟨h0, bEq x1 (⟨#[115, 116, 101, 112]⟩ : ByteArray), HF, rfl, S0, Hle.refl _⟩
                                                                                                                                                              · replace HF := bif_f hb78 HF
                                                                                                                                                                refine WC.seq ?_
                                                                                                                                                                refine WC.region ?_
                                                                                                                                                                refine WL.val rfl rfl rfl (ov_eqlS rfl rfl) ?_
                                                                                                                                                                refine WL.val rfl rfl rfl (ov_assign rfl) ?_
                                                                                                                                                                refine WL.nil ?_
                                                                                                                                                                refine WQ.seqN ?_
                                                                                                                                                                refine WC.cond (b := bEq x1 (⟨#[115, 116, 110]⟩ : ByteArray)) rfl (fun hb79 => ?_) (fun hb79 => ?_)
                                                                                                                                                                · replace HF := bif_t hb79 HF
                                                                                                                                                                  refine WC.skip ?_
                                                                                                                                                                  refine WC.to [4] [(4, .bool (bEq x1 (⟨#[115, 116, 110]⟩ : ByteArray)))] rfl ?_
                                                                                                                                                                  exact J97 ⟨h0, bEq x1 (⟨#[115, 116, 110]⟩ : ByteArray), HF, rfl, S0, Hle.refl _⟩
                                                                                                                                                                · replace HF := bif_f hb79 HF
                                                                                                                                                                  refine WC.seq ?_
                                                                                                                                                                  refine WC.region ?_
                                                                                                                                                                  refine WL.val rfl rfl rfl (ov_eqlS rfl rfl) ?_
                                                                                                                                                                  refine WL.val rfl rfl rfl (ov_assign rfl) ?_
                                                                                                                                                                  refine WL.nil ?_
                                                                                                                                                                  refine WQ.seqN ?_
                                                                                                                                                                  refine WC.cond (b := bEq x1 (⟨#[115, 117, 98]⟩ : ByteArray)) rfl (fun hb80 => ?_) (fun hb80 => ?_)
                                                                                                                                                                  · replace HF := bif_t hb80 HF
                                                                                                                                                                    refine WC.skip ?_
                                                                                                                                                                    refine WC.to [4] [(4, .bool (bEq x1 (⟨#[115, 117, 98]⟩ : ByteArray)))] rfl ?_
                                                                                                                                                                    exact J97 ⟨h0, bEq x1 (⟨#[115, 117, 98]⟩ : ByteArray), HF, rfl, S0, Hle.refl _⟩
                                                                                                                                                                  · replace HF := bif_f hb80 HF
                                                                                                                                                                    refine WC.seq ?_
                                                                                                                                                                    refine WC.region ?_
                                                                                                                                                                    refine WL.val rfl rfl rfl (ov_eqlS rfl rfl) ?_
                                                                                                                                                                    refine WL.val rfl rfl rfl (ov_assign rfl) ?_
                                                                                                                                                                    refine WL.nil ?_
                                                                                                                                                                    refine WQ.seqN ?_
                                                                                                                                                                    refine WC.cond (b := bEq x1 (⟨#[116, 97, 115, 107]⟩ : ByteArray)) rfl (fun hb81 => ?_) (fun hb81 => ?_)
                                                                                                                                                                    · replace HF := bif_t hb81 HF
                                                                                                                                                                      refine WC.skip ?_
                                                                                                                                                                      refine WC.to [4] [(4, .bool (bEq x1 (⟨#[116, 97, 115, 107]⟩ : ByteArray)))] rfl ?_
                                                                                                                                                                      exact J97 ⟨h0, bEq x1 (⟨#[116, 97, 115, 107]⟩ : ByteArray), HF, rfl, S0, Hle.refl _⟩
                                                                                                                                                                    · replace HF := bif_f hb81 HF
                                                                                                                                                                      refine WC.seq ?_
                                                                                                                                                                      refine WC.region ?_
                                                                                                                                                                      refine WL.val rfl rfl rfl (ov_eqlS rfl rfl) ?_
                                                                                                                                                                      refine WL.val rfl rfl rfl (ov_assign rfl) ?_
                                                                                                                                                                      refine WL.nil ?_
                                                                                                                                                                      refine WQ.seqN ?_
                                                                                                                                                                      refine WC.cond (b := bEq x1 (⟨#[116, 104, 101, 110]⟩ : ByteArray)) rfl (fun hb82 => ?_) (fun hb82 => ?_)
                                                                                                                                                                      · replace HF := bif_t hb82 HF
                                                                                                                                                                        refine WC.skip ?_
                                                                                                                                                                        refine WC.to [4] [(4, .bool (bEq x1 (⟨#[116, 104, 101, 110]⟩ : ByteArray)))] rfl ?_
                                                                                                                                                                        exact J97 ⟨h0, bEq x1 (⟨#[116, 104, 101, 110]⟩ : ByteArray), HF, rfl, S0, Hle.refl _⟩
                                                                                                                                                                      · replace HF := bif_f hb82 HF
                                                                                                                                                                        refine WC.seq ?_
                                                                                                                                                                        refine WC.region ?_
                                                                                                                                                                        refine WL.val rfl rfl rfl (ov_eqlS rfl rfl) ?_
                                                                                                                                                                        refine WL.val rfl rfl rfl (ov_assign rfl) ?_
                                                                                                                                                                        refine WL.nil ?_
                                                                                                                                                                        refine WQ.seqN ?_
                                                                                                                                                                        refine WC.cond (b := bEq x1 (⟨#[116, 105, 109, 101]⟩ : ByteArray)) rfl (fun hb83 => ?_) (fun hb83 => ?_)
                                                                                                                                                                        · replace HF := bif_t hb83 HF
                                                                                                                                                                          refine WC.skip ?_
                                                                                                                                                                          refine WC.to [4] [(4, .bool (bEq x1 (⟨#[116, 105, 109, 101]⟩ : ByteArray)))] rfl ?_
                                                                                                                                                                          exact J97 ⟨h0, bEq x1 (⟨#[116, 105, 109, 101]⟩ : ByteArray), HF, rfl, S0, Hle.refl _⟩
                                                                                                                                                                        · replace HF := bif_f hb83 HF
                                                                                                                                                                          refine WC.seq ?_
                                                                                                                                                                          refine WC.region ?_
                                                                                                                                                                          refine WL.val rfl rfl rfl (ov_eqlS rfl rfl) ?_
                                                                                                                                                                          refine WL.val rfl rfl rfl (ov_assign rfl) ?_
                                                                                                                                                                          refine WL.nil ?_
                                                                                                                                                                          refine WQ.seqN ?_
                                                                                                                                                                          refine WC.cond (b := bEq x1 (⟨#[116, 111]⟩ : ByteArray)) rfl (fun hb84 => ?_) (fun hb84 => ?_)
                                                                                                                                                                          · replace HF := bif_t hb84 HF
                                                                                                                                                                            refine WC.skip ?_
                                                                                                                                                                            refine WC.to [4] [(4, .bool (bEq x1 (⟨#[116, 111]⟩ : ByteArray)))] rfl ?_
                                                                                                                                                                            exact J97 ⟨h0, bEq x1 (⟨#[116, 111]⟩ : ByteArray), HF, rfl, S0, Hle.refl _⟩
                                                                                                                                                                          · replace HF := bif_f hb84 HF
                                                                                                                                                                            refine WC.seq ?_
                                                                                                                                                                            refine WC.region ?_
                                                                                                                                                                            refine WL.val rfl rfl rfl (ov_eqlS rfl rfl) ?_
                                                                                                                                                                            refine WL.val rfl rfl rfl (ov_assign rfl) ?_
                                                                                                                                                                            refine WL.nil ?_
                                                                                                                                                                            refine WQ.seqN ?_
                                                                                                                                                                            refine WC.cond (b := bEq x1 (⟨#[116, 114, 97, 110, 115, 105, 116, 105, 111, 110]⟩ : ByteArray)) rfl (fun hb85 => ?_) (fun hb85 => ?_)
                                                                                                                                                                            · replace HF := bif_t hb85 HF
                                                                                                                                                                              refine WC.skip ?_
                                                                                                                                                                              refine WC.to [4] [(4, .bool (bEq x1 (⟨#[116, 114, 97, 110, 115, 105, 116, 105, 111, 110]⟩ : ByteArray)))] rfl ?_
                                                                                                                                                                              exact J97 ⟨h0, bEq x1 (⟨#[116, 114, 97, 110, 115, 105, 116, 105, 111, 110]⟩ : ByteArray), HF, rfl, S0, Hle.refl _⟩
                                                                                                                                                                            · replace HF := bif_f hb85 HF
                                                                                                                                                                              refine WC.seq ?_
                                                                                                                                                                              refine WC.region ?_
                                                                                                                                                                              refine WL.val rfl rfl rfl (ov_eqlS rfl rfl) ?_
                                                                                                                                                                              refine WL.val rfl rfl rfl (ov_assign rfl) ?_
                                                                                                                                                                              refine WL.nil ?_
                                                                                                                                                                              refine WQ.seqN ?_
                                                                                                                                                                              refine WC.cond (b := bEq x1 (⟨#[116, 114, 117, 101]⟩ : ByteArray)) rfl (fun hb86 => ?_) (fun hb86 => ?_)
                                                                                                                                                                              · replace HF := bif_t hb86 HF
                                                                                                                                                                                refine WC.skip ?_
                                                                                                                                                                                refine WC.to [4] [(4, .bool (bEq x1 (⟨#[116, 114, 117, 101]⟩ : ByteArray)))] rfl ?_
                                                                                                                                                                                exact J97 ⟨h0, bEq x1 (⟨#[116, 114, 117, 101]⟩ : ByteArray), HF, rfl, S0, Hle.refl _⟩
                                                                                                                                                                              · replace HF := bif_f hb86 HF
                                                                                                                                                                                refine WC.seq ?_
                                                                                                                                                                                refine WC.region ?_
                                                                                                                                                                                refine WL.val rfl rfl rfl (ov_eqlS rfl rfl) ?_
                                                                                                                                                                                refine WL.val rfl rfl rfl (ov_assign rfl) ?_
                                                                                                                                                                                refine WL.nil ?_
                                                                                                                                                                                refine WQ.seqN ?_
                                                                                                                                                                                refine WC.cond (b := bEq x1 (⟨#[117, 110, 116, 105, 108]⟩ : ByteArray)) rfl (fun hb87 => ?_) (fun hb87 => ?_)
                                                                                                                                                                                · replace HF := bif_t hb87 HF
                                                                                                                                                                                  refine WC.skip ?_
                                                                                                                                                                                  refine WC.to [4] [(4, .bool (bEq x1 (⟨#[117, 110, 116, 105, 108]⟩ : ByteArray)))] rfl ?_
                                                                                                                                                                                  exact J97 ⟨h0, bEq x1 (⟨#[117, 110, 116, 105, 108]⟩ : ByteArray), HF, rfl, S0, Hle.refl _⟩
                                                                                                                                                                                · replace HF := bif_f hb87 HF
                                                                                                                                                                                  refine WC.seq ?_
                                                                                                                                                                                  refine WC.region ?_
                                                                                                                                                                                  refine WL.val rfl rfl rfl (ov_eqlS rfl rfl) ?_
                                                                                                                                                                                  refine WL.val rfl rfl rfl (ov_assign rfl) ?_
                                                                                                                                                                                  refine WL.nil ?_
                                                                                                                                                                                  refine WQ.seqN ?_
                                                                                                                                                                                  refine WC.cond (b := bEq x1 (⟨#[119, 104, 101, 110]⟩ : ByteArray)) rfl (fun hb88 => ?_) (fun hb88 => ?_)
                                                                                                                                                                                  · replace HF := bif_t hb88 HF
                                                                                                                                                                                    refine WC.skip ?_
                                                                                                                                                                                    refine WC.to [4] [(4, .bool (bEq x1 (⟨#[119, 104, 101, 110]⟩ : ByteArray)))] rfl ?_
                                                                                                                                                                                    exact J97 ⟨h0, bEq x1 (⟨#[119, 104, 101, 110]⟩ : ByteArray), HF, rfl, S0, Hle.refl _⟩
                                                                                                                                                                                  · replace HF := bif_f hb88 HF
                                                                                                                                                                                    refine WC.seq ?_
                                                                                                                                                                                    refine WC.region ?_
                                                                                                                                                                                    refine WL.val rfl rfl rfl (ov_eqlS rfl rfl) ?_
                                                                                                                                                                                    refine WL.val rfl rfl rfl (ov_assign rfl) ?_
                                                                                                                                                                                    refine WL.nil ?_
                                                                                                                                                                                    refine WQ.seqN ?_
                                                                                                                                                                                    refine WC.cond (b := bEq x1 (⟨#[119, 104, 105, 108, 101]⟩ : ByteArray)) rfl (fun hb89 => ?_) (fun hb89 => ?_)
                                                                                                                                                                                    · replace HF := bif_t hb89 HF
                                                                                                                                                                                      refine WC.skip ?_
                                                                                                                                                                                      refine WC.to [4] [(4, .bool (bEq x1 (⟨#[119, 104, 105, 108, 101]⟩ : ByteArray)))] rfl ?_
                                                                                                                                                                                      exact J97 ⟨h0, bEq x1 (⟨#[119, 104, 105, 108, 101]⟩ : ByteArray), HF, rfl, S0, Hle.refl _⟩
                                                                                                                                                                                    · replace HF := bif_f hb89 HF
                                                                                                                                                                                      refine WC.seq ?_
                                                                                                                                                                                      refine WC.region ?_
                                                                                                                                                                                      refine WL.val rfl rfl rfl (ov_eqlS rfl rfl) ?_
                                                                                                                                                                                      refine WL.val rfl rfl rfl (ov_assign rfl) ?_
                                                                                                                                                                                      refine WL.nil ?_
                                                                                                                                                                                      refine WQ.seqN ?_
                                                                                                                                                                                      refine WC.cond (b := bEq x1 (⟨#[120, 111, 114]⟩ : ByteArray)) rfl (fun hb90 => ?_) (fun hb90 => ?_)
                                                                                                                                                                                      · replace HF := bif_t hb90 HF
                                                                                                                                                                                        refine WC.skip ?_
                                                                                                                                                                                        refine WC.to [4] [(4, .bool (bEq x1 (⟨#[120, 111, 114]⟩ : ByteArray)))] rfl ?_
                                                                                                                                                                                        exact J97 ⟨h0, bEq x1 (⟨#[120, 111, 114]⟩ : ByteArray), HF, rfl, S0, Hle.refl _⟩
                                                                                                                                                                                      · replace HF := bif_f hb90 HF
                                                                                                                                                                                        refine WC.region ?_
                                                                                                                                                                                        refine WL.val rfl rfl rfl (ov_eqlS rfl rfl) ?_
                                                                                                                                                                                        refine WL.val rfl rfl rfl (ov_assign rfl) ?_
                                                                                                                                                                                        refine WL.nil ?_
                                                                                                                                                                                        refine WC.to [4] [(4, .bool (bEq x1 (⟨#[120, 111, 114, 110]⟩ : ByteArray)))] rfl ?_
                                                                                                                                                                                        exact J97 ⟨h0, bEq x1 (⟨#[120, 111, 114, 110]⟩ : ByteArray), HF, rfl, S0, Hle.refl _⟩
theorem ok_lexis_IsWord (k : Nat) : C_lexis_IsWord (F_lexis_IsWord k) := s_lexis_IsWord k

def C_lexis_isDigit (φ : Int → Option Bool) : Prop := ∀ ⦃x1 : Int⦄ ⦃r : Bool⦄, φ x1 = some r → ∀ ⦃w0 : World⦄ ⦃h0 : Hp⦄, Sub h0 w0 →
  Calls Tryz.prog 140 #[.int .u8 x1] w0 fun e w1 => ∃ v, e = .returned v ∧ ∃ h1, Stp [] w0 h0 w1 h1 ∧ v = .bool r
set_option maxRecDepth 20000 in
set_option maxHeartbeats 4000000 in
theorem s_lexis_isDigit (k : Nat) : C_lexis_isDigit (F_lexis_isDigit k) := by
  intro x1 r HF w0 h0  hs0 
  have S0 : Stp [] w0 h0 w0 h0 := Stp.refl hs0 _
  refine enter (n := 9) Tryz.func140 rfl Tryz.ntmps140 rfl [(0, .int .u8 x1)] rfl ?_
  refine WC.seq ?_
  refine WC.region ?_
  refine WL.val rfl rfl rfl (ov_assign rfl) ?_
  refine WL.nil ?_
  refine WQ.seqN ?_
  refine WC.seq ?_
  refine WC.region ?_
  refine WL.val rfl rfl rfl (ov_move rfl) ?_
  refine WL.val rfl rfl rfl (ov_geq rfl rfl) ?_
  refine WL.val rfl rfl rfl (ov_move rfl) ?_
  refine WL.split 5 (b := decide ((48 : Int) ≤ x1)) rfl (fun hb2 => ?_) (fun hb2 => ?_)
  · replace HF := bif_t hb2 HF
    refine WL.val rfl rfl rfl (ov_move rfl) ?_
    refine WL.val rfl rfl rfl (ov_leq rfl rfl) ?_
    refine WL.val rfl rfl rfl (ov_pickT rfl rfl) ?_
    refine WL.val rfl rfl rfl (ov_assign rfl) ?_
    refine WL.nil ?_
    refine WQ.seqN ?_
    refine WC.ret ?_
    refine WQ.ret1 rfl rfl ?_
    obtain rfl := Option.some.inj HF
    exact ⟨_, rfl, h0, S0, rfl⟩
  · replace HF := bif_f hb2 HF
    refine WL.pass rfl rfl rfl ?_
    refine WL.pass rfl rfl rfl ?_
    refine WL.val rfl rfl rfl (ov_pickF rfl rfl) ?_
    refine WL.val rfl rfl rfl (ov_assign rfl) ?_
    refine WL.nil ?_
    refine WQ.seqN ?_
    refine WC.ret ?_
    refine WQ.ret1 rfl rfl ?_
    obtain rfl := Option.some.inj HF
    exact ⟨_, rfl, h0, S0, rfl⟩
theorem ok_lexis_isDigit (k : Nat) : C_lexis_isDigit (F_lexis_isDigit k) := s_lexis_isDigit k

def C_lexis_isLetter (φ : Int → Option Bool) : Prop := ∀ ⦃x1 : Int⦄ ⦃r : Bool⦄, φ x1 = some r → ∀ ⦃w0 : World⦄ ⦃h0 : Hp⦄, Sub h0 w0 →
  Calls Tryz.prog 135 #[.int .u8 x1] w0 fun e w1 => ∃ v, e = .returned v ∧ ∃ h1, Stp [] w0 h0 w1 h1 ∧ v = .bool r
set_option maxRecDepth 20000 in
set_option maxHeartbeats 4000000 in
theorem s_lexis_isLetter (k : Nat) : C_lexis_isLetter (F_lexis_isLetter k) := by
  intro x1 r HF w0 h0  hs0 
  have S0 : Stp [] w0 h0 w0 h0 := Stp.refl hs0 _
  refine enter (n := 9) Tryz.func135 rfl Tryz.ntmps135 rfl [(0, .int .u8 x1)] rfl ?_
  refine WC.seq ?_
  refine WC.region ?_
  refine WL.val rfl rfl rfl (ov_assign rfl) ?_
  refine WL.nil ?_
  refine WQ.seqN ?_
  refine WC.seq ?_
  refine WC.region ?_
  refine WL.val rfl rfl rfl (ov_move rfl) ?_
  refine WL.val rfl rfl rfl (ov_geq rfl rfl) ?_
  refine WL.val rfl rfl rfl (ov_move rfl) ?_
  refine WL.split 5 (b := decide ((97 : Int) ≤ x1)) rfl (fun hb2 => ?_) (fun hb2 => ?_)
  · replace HF := bif_t hb2 HF
    refine WL.val rfl rfl rfl (ov_move rfl) ?_
    refine WL.val rfl rfl rfl (ov_leq rfl rfl) ?_
    refine WL.val rfl rfl rfl (ov_pickT rfl rfl) ?_
    refine WL.val rfl rfl rfl (ov_assign rfl) ?_
    refine WL.nil ?_
    refine WQ.seqN ?_
    refine WC.ret ?_
    refine WQ.ret1 rfl rfl ?_
    obtain rfl := Option.some.inj HF
    exact ⟨_, rfl, h0, S0, rfl⟩
  · replace HF := bif_f hb2 HF
    refine WL.pass rfl rfl rfl ?_
    refine WL.pass rfl rfl rfl ?_
    refine WL.val rfl rfl rfl (ov_pickF rfl rfl) ?_
    refine WL.val rfl rfl rfl (ov_assign rfl) ?_
    refine WL.nil ?_
    refine WQ.seqN ?_
    refine WC.ret ?_
    refine WQ.ret1 rfl rfl ?_
    obtain rfl := Option.some.inj HF
    exact ⟨_, rfl, h0, S0, rfl⟩
theorem ok_lexis_isLetter (k : Nat) : C_lexis_isLetter (F_lexis_isLetter k) := s_lexis_isLetter k

def C_lexis_isPart (φ : Int → Option Bool) : Prop := ∀ ⦃x1 : Int⦄ ⦃r : Bool⦄, φ x1 = some r → ∀ ⦃w0 : World⦄ ⦃h0 : Hp⦄, Sub h0 w0 →
  Calls Tryz.prog 134 #[.int .u8 x1] w0 fun e w1 => ∃ v, e = .returned v ∧ ∃ h1, Stp [] w0 h0 w1 h1 ∧ v = .bool r
set_option maxRecDepth 20000 in
set_option maxHeartbeats 4000000 in
theorem s_lexis_isPart (k : Nat) : C_lexis_isPart (F_lexis_isPart k) := by
  intro x1 r HF w0 h0  hs0 
  have S0 : Stp [] w0 h0 w0 h0 := Stp.refl hs0 _
  refine enter (n := 13) Tryz.func134 rfl Tryz.ntmps134 rfl [(0, .int .u8 x1)] rfl ?_
  refine WC.seq ?_
  refine WC.region ?_
  refine WL.val rfl rfl rfl (ov_assign rfl) ?_
  refine WL.nil ?_
  refine WQ.seqN ?_
  refine WC.seq ?_
  refine WC.region ?_
  refine WL.val rfl rfl rfl (ov_move rfl) ?_
  obtain ⟨r2, hr3, HF⟩ := bind_some HF
  refine WL.call rfl rfl rfl (oc_func (vs := [.int .u8 x1]) rfl t_ent_135) (ok_lexis_isLetter _ hr3 S0.sub) ?_
  rintro _ w5 ⟨h6, s7, rfl⟩
  have S8 := S0.trans0 s7
  refine WL.val rfl rfl rfl (ov_move rfl) ?_
  refine WL.split 5 (b := r2) rfl (fun hb9 => ?_) (fun hb9 => ?_)
  · replace HF := bif_t hb9 HF
    refine WL.pass rfl rfl rfl ?_
    refine WL.pass rfl rfl rfl ?_
    refine WL.val rfl rfl rfl (ov_pickT rfl rfl) ?_
    refine WL.val rfl rfl rfl (ov_move rfl) ?_
    refine WL.pass rfl rfl rfl ?_
    refine WL.pass rfl rfl rfl ?_
    refine WL.val rfl rfl rfl (ov_pickT rfl rfl) ?_
    refine WL.val rfl rfl rfl (ov_assign rfl) ?_
    refine WL.nil ?_
    refine WQ.seqN ?_
    refine WC.ret ?_
    refine WQ.ret1 rfl rfl ?_
    obtain rfl := Option.some.inj HF
    exact ⟨_, rfl, h6, S8, rfl⟩
  · replace HF := bif_f hb9 HF
    refine WL.val rfl rfl rfl (ov_move rfl) ?_
    obtain ⟨r10, hr11, HF⟩ := bind_some HF
    refine WL.call rfl rfl rfl (oc_func (vs := [.int .u8 x1]) rfl t_ent_140) (ok_lexis_isDigit _ hr11 S8.sub) ?_
    rintro _ w13 ⟨h14, s15, rfl⟩
    have S16 := S8.trans0 s15
    refine WL.val rfl rfl rfl (ov_pickF rfl rfl) ?_
    refine WL.val rfl rfl rfl (ov_move rfl) ?_
    refine WL.split 9 (b := r10) rfl (fun hb17 => ?_) (fun hb17 => ?_)
    · replace HF := bif_t hb17 HF
      refine WL.pass rfl rfl rfl ?_
      refine WL.pass rfl rfl rfl ?_
      refine WL.val rfl rfl rfl (ov_pickT rfl rfl) ?_
      refine WL.val rfl rfl rfl (ov_assign rfl) ?_
      refine WL.nil ?_
      refine WQ.seqN ?_
      refine WC.ret ?_
      refine WQ.ret1 rfl rfl ?_
      obtain rfl := Option.some.inj HF
      exact ⟨_, rfl, h14, S16, rfl⟩
    · replace HF := bif_f hb17 HF
      refine WL.val rfl rfl rfl (ov_move rfl) ?_
      refine WL.val rfl rfl rfl (ov_eql rfl rfl) ?_
      refine WL.val rfl rfl rfl (ov_pickF rfl rfl) ?_
      refine WL.val rfl rfl rfl (ov_assign rfl) ?_
      refine WL.nil ?_
      refine WQ.seqN ?_
      refine WC.ret ?_
      refine WQ.ret1 rfl rfl ?_
      obtain rfl := Option.some.inj HF
      exact ⟨_, rfl, h14, S16, rfl⟩
theorem ok_lexis_isPart (k : Nat) : C_lexis_isPart (F_lexis_isPart k) := s_lexis_isPart k

def C_lexis_isRun (φ : ByteArray → Option Bool) : Prop := ∀ ⦃x1 : ByteArray⦄ ⦃r : Bool⦄, φ x1 = some r → ∀ ⦃w0 : World⦄ ⦃h0 : Hp⦄, Sub h0 w0 →
  Calls Tryz.prog 118 #[.string x1] w0 fun e w1 => ∃ v, e = .returned v ∧ ∃ h1, Stp [] w0 h0 w1 h1 ∧ v = .bool r
set_option maxRecDepth 20000 in
set_option maxHeartbeats 4000000 in
theorem s_lexis_isRun (k : Nat) (IH : ∀ j, j ≤ k → C_lexis_isRun (tie_lexis_isRun j).lexis_isRun) : C_lexis_isRun (m_lexis_isRun k (tie_lexis_isRun k)) := by
  intro x1 r HF w0 h0  hs0 
  have S0 : Stp [] w0 h0 w0 h0 := Stp.refl hs0 _
  refine enter (n := 22) Tryz.func118 rfl Tryz.ntmps118 rfl [(0, .string x1)] rfl ?_
  refine WC.seq ?_
  refine WC.region ?_
  refine WL.val rfl rfl rfl (ov_assign rfl) ?_
  refine WL.nil ?_
  refine WQ.seqN ?_
  refine WC.seq ?_
  refine WC.seq ?_
  refine WC.region ?_
  refine WL.val rfl rfl rfl (ov_move rfl) ?_
  refine WL.val rfl rfl rfl (ov_lenS rfl t_string_9) ?_
  refine WL.val rfl rfl rfl (ov_move rfl) ?_
  refine WL.nil ?_
  refine WQ.seqN ?_
  refine WC.block ?_
  refine WC.loop ?_
  refine WP.to [0, 5, 6] [(0, .string x1), (5, .int .i64 (x1.size : Int)), (6, .int .i64 0)] rfl ?_
  refine WP_rule (K := k) (fun j E w3 => ∃ (h2 : Hp) (x6 : Int), (tie_lexis_isRun j).lexis_isRun_l1 x1 x6 = some r ∧ E = [(0, .string x1), (5, .int .i64 (x1.size : Int)), (6, .int .i64 x6)] ∧ Stp [] w0 h0 w3 h2 ∧ Hle h0 h2) ?_ ?_ (j := k) (Nat.le_refl _) ?_
  · rintro E w3 ⟨_, _, HF, _⟩; cases HF
  · rintro j7 hj9 IHL8 E w3 ⟨h2, x6, HF, rfl, S5, le4⟩
    refine WC.seq ?_
    refine WC.region ?_
    refine WL.val rfl rfl rfl (ov_lss rfl rfl) ?_
    refine WL.nil ?_
    refine WQ.seqN ?_
    refine WC.join (fun E w22 => ∃ (h21 : Hp), lexis_isRun_j2 j7 (tie_lexis_isRun j7) x1 x6 = some r ∧ E = [(0, .string x1), (5, .int .i64 (x1.size : Int)), (6, .int .i64 x6)] ∧ Stp [] w0 h0 w22 h21 ∧ Hle h2 h21) ?_ ?_
    · rintro E w22 ⟨h21, HF, rfl, S24, le23⟩
      refine WC.seq ?_
      refine WC.block ?_
      refine WC.seq ?_
      refine WC.region ?_
      refine WL.val rfl rfl rfl (ov_move rfl) ?_
      refine WL.val rfl rfl rfl (ov_assign rfl) ?_
      refine WL.nil ?_
      refine WQ.seqN ?_
      refine WC.seq ?_
      refine WC.region ?_
      refine WL.val rfl rfl rfl (ov_move rfl) ?_
      refine WL.val rfl rfl rfl (ov_move rfl) ?_
      obtain ⟨c25, hc26, HF⟩ := bind_some HF
      refine WL.val rfl rfl rfl (ov_indexSO rfl rfl t_string_9 hc26) ?_
      obtain ⟨r27, hr28, HF⟩ := bind_some HF
      refine WL.call rfl rfl rfl (oc_func (vs := [.int .u8 c25]) rfl t_ent_134) (ok_lexis_isPart _ hr28 S24.sub) ?_
      rintro _ w30 ⟨h31, s32, rfl⟩
      have S33 := S24.trans0 s32
      refine WL.val rfl rfl rfl (ov_not rfl) ?_
      refine WL.nil ?_
      refine WQ.seqN ?_
      refine WC.cond (b := !r27) rfl (fun hb34 => ?_) (fun hb34 => ?_)
      · replace HF := bif_t hb34 HF
        refine WC.seq ?_
        refine WC.region ?_
        refine WL.val rfl rfl rfl (ov_assign rfl) ?_
        refine WL.nil ?_
        refine WQ.seqN ?_
        refine WC.ret ?_
        refine WQ.blockRet ?_
        refine WQ.thenRet ?_
        refine WQ.thenRet ?_
        refine WQ.blockRet ?_
        refine WQ.thenRet ?_
        refine WQ.ret1 rfl rfl ?_
        obtain rfl := Option.some.inj HF
        exact ⟨_, rfl, h31, S33, rfl⟩
      · replace HF := bif_f hb34 HF
        refine WC.skip ?_
        refine WQ.blockN ?_
        refine WQ.seqN ?_
        refine WC.region ?_
        refine WL.val rfl rfl rfl (ov_add rfl rfl) ?_
        refine WL.val rfl rfl rfl (ov_move rfl) ?_
        refine WL.nil ?_
        refine WQ.loopN ?_
        refine WP.to [0, 5, 6] [(0, .string x1), (5, .int .i64 (x1.size : Int)), (6, .int .i64 (IntKind.i64.wrap (x6 + 1)))] rfl ?_
        exact IHL8 j7 (Nat.le_refl _) _ _ ⟨h31, IntKind.i64.wrap (x6 + 1), HF, rfl, S33, (le4).trans ((le23).trans s32.le)⟩
    · intro J35
      refine WC.cond (b := decide ((x6 : Int) < (x1.size : Int))) rfl (fun hb10 => ?_) (fun hb10 => ?_)
      · replace HF := bif_t hb10 HF
        refine WC.skip ?_
        refine WC.to [0, 5, 6] [(0, .string x1), (5, .int .i64 (x1.size : Int)), (6, .int .i64 x6)] rfl ?_
        exact J35 ⟨h2, HF, rfl, S5, Hle.refl _⟩
      · replace HF := bif_f hb10 HF
        refine WC.exit ?_
        refine WQ.thenExit ?_
        refine WQ.thenExit ?_
        refine WQ.blockHit ?_
        refine WQ.seqN ?_
        refine WC.seq ?_
        refine WC.region ?_
        refine WL.val rfl rfl rfl (ov_move rfl) ?_
        refine WL.val rfl rfl rfl (ov_neqS rfl rfl) ?_
        refine WL.val rfl rfl rfl (ov_move rfl) ?_
        refine WL.split 17 (b := !bEq x1 (⟨#[]⟩ : ByteArray)) rfl (fun hb11 => ?_) (fun hb11 => ?_)
        · replace HF := bif_t hb11 HF
          refine WL.val rfl rfl rfl (ov_move rfl) ?_
          obtain ⟨c12, hc13, HF⟩ := bind_some HF
          refine WL.val rfl rfl rfl (ov_indexSO rfl rfl t_string_9 hc13) ?_
          obtain ⟨r14, hr15, HF⟩ := bind_some HF
          refine WL.call rfl rfl rfl (oc_func (vs := [.int .u8 c12]) rfl t_ent_135) (ok_lexis_isLetter _ hr15 S5.sub) ?_
          rintro _ w17 ⟨h18, s19, rfl⟩
          have S20 := S5.trans0 s19
          refine WL.val rfl rfl rfl (ov_pickT rfl rfl) ?_
          refine WL.val rfl rfl rfl (ov_assign rfl) ?_
          refine WL.nil ?_
          refine WQ.seqN ?_
          refine WC.ret ?_
          refine WQ.ret1 rfl rfl ?_
          obtain rfl := Option.some.inj HF
          exact ⟨_, rfl, h18, S20, rfl⟩
        · replace HF := bif_f hb11 HF
          refine WL.pass rfl rfl rfl ?_
          refine WL.pass rfl rfl rfl ?_
          refine WL.pass rfl rfl rfl ?_
          refine WL.val rfl rfl rfl (ov_pickF rfl rfl) ?_
          refine WL.val rfl rfl rfl (ov_assign rfl) ?_
          refine WL.nil ?_
          refine WQ.seqN ?_
          refine WC.ret ?_
          refine WQ.ret1 rfl rfl ?_
          obtain rfl := Option.some.inj HF
          exact ⟨_, rfl, h2, S5, rfl⟩
  · exact ⟨h0, 0, HF, rfl, S0, Hle.refl _⟩
theorem all_lexis_isRun : ∀ k j, j ≤ k → C_lexis_isRun (tie_lexis_isRun j).lexis_isRun := by
  intro k
  induction k with
  | zero =>
    intro j hj
    obtain rfl : j = 0 := by omega
    exact (fun _ _ => by intro h; cases h)
  | succ k ih =>
    intro j hj
    by_cases h : j ≤ k
    · exact ih j h
    · obtain rfl : j = k + 1 := by omega
      exact s_lexis_isRun k ih
theorem ok_lexis_isRun (k : Nat) : C_lexis_isRun (F_lexis_isRun k) := (all_lexis_isRun k k (Nat.le_refl _))

def C_lexis_IsName (φ : ByteArray → Option Bool) : Prop := ∀ ⦃x1 : ByteArray⦄ ⦃r : Bool⦄, φ x1 = some r → ∀ ⦃w0 : World⦄ ⦃h0 : Hp⦄, Sub h0 w0 →
  Calls Tryz.prog 100 #[.string x1] w0 fun e w1 => ∃ v, e = .returned v ∧ ∃ h1, Stp [] w0 h0 w1 h1 ∧ v = .bool r
set_option maxRecDepth 20000 in
set_option maxHeartbeats 4000000 in
theorem s_lexis_IsName (k : Nat) : C_lexis_IsName (F_lexis_IsName k) := by
  intro x1 r HF w0 h0  hs0 
  have S0 : Stp [] w0 h0 w0 h0 := Stp.refl hs0 _
  refine enter (n := 15) Tryz.func100 rfl Tryz.ntmps100 rfl [(0, .string x1)] rfl ?_
  refine WC.seq ?_
  refine WC.region ?_
  refine WL.val rfl rfl rfl (ov_assign rfl) ?_
  refine WL.nil ?_
  refine WQ.seqN ?_
  refine WC.seq ?_
  refine WC.region ?_
  refine WL.val rfl rfl rfl (ov_move rfl) ?_
  obtain ⟨r2, hr3, HF⟩ := bind_some HF
  refine WL.call rfl rfl rfl (oc_func (vs := [.string x1]) rfl t_ent_118) (ok_lexis_isRun _ hr3 S0.sub) ?_
  rintro _ w5 ⟨h6, s7, rfl⟩
  have S8 := S0.trans0 s7
  refine WL.val rfl rfl rfl (ov_move rfl) ?_
  refine WL.split 5 (b := r2) rfl (fun hb9 => ?_) (fun hb9 => ?_)
  · replace HF := bif_t hb9 HF
    refine WL.val rfl rfl rfl (ov_move rfl) ?_
    refine WL.val rfl rfl rfl (ov_lenS rfl t_string_9) ?_
    refine WL.val rfl rfl rfl (ov_leq rfl rfl) ?_
    refine WL.val rfl rfl rfl (ov_pickT rfl rfl) ?_
    refine WL.val rfl rfl rfl (ov_move rfl) ?_
    refine WL.split 10 (b := decide (((x1.size : Int) : Int) ≤ 12)) rfl (fun hb10 => ?_) (fun hb10 => ?_)
    · replace HF := bif_t hb10 HF
      refine WL.val rfl rfl rfl (ov_move rfl) ?_
      obtain ⟨r11, hr12, HF⟩ := bind_some HF
      refine WL.call rfl rfl rfl (oc_func (vs := [.string x1]) rfl t_ent_119) (ok_lexis_IsWord _ hr12 S8.sub) ?_
      rintro _ w14 ⟨h15, s16, rfl⟩
      have S17 := S8.trans0 s16
      refine WL.val rfl rfl rfl (ov_not rfl) ?_
      refine WL.val rfl rfl rfl (ov_pickT rfl rfl) ?_
      refine WL.val rfl rfl rfl (ov_assign rfl) ?_
      refine WL.nil ?_
      refine WQ.seqN ?_
      refine WC.ret ?_
      refine WQ.ret1 rfl rfl ?_
      obtain rfl := Option.some.inj HF
      exact ⟨_, rfl, h15, S17, rfl⟩
    · replace HF := bif_f hb10 HF
      refine WL.pass rfl rfl rfl ?_
      refine WL.pass rfl rfl rfl ?_
      refine WL.pass rfl rfl rfl ?_
      refine WL.val rfl rfl rfl (ov_pickF rfl rfl) ?_
      refine WL.val rfl rfl rfl (ov_assign rfl) ?_
      refine WL.nil ?_
      refine WQ.seqN ?_
      refine WC.ret ?_
      refine WQ.ret1 rfl rfl ?_
      obtain rfl := Option.some.inj HF
      exact ⟨_, rfl, h6, S8, rfl⟩
  · replace HF := bif_f hb9 HF
    refine WL.pass rfl rfl rfl ?_
    refine WL.pass rfl rfl rfl ?_
    refine WL.pass rfl rfl rfl ?_
    refine WL.val rfl rfl rfl (ov_pickF rfl rfl) ?_
    refine WL.val rfl rfl rfl (ov_move rfl) ?_
    refine WL.pass rfl rfl rfl ?_
    refine WL.pass rfl rfl rfl ?_
    refine WL.pass rfl rfl rfl ?_
    refine WL.val rfl rfl rfl (ov_pickF rfl rfl) ?_
    refine WL.val rfl rfl rfl (ov_assign rfl) ?_
    refine WL.nil ?_
    refine WQ.seqN ?_
    refine WC.ret ?_
    refine WQ.ret1 rfl rfl ?_
    obtain rfl := Option.some.inj HF
    exact ⟨_, rfl, h6, S8, rfl⟩
theorem ok_lexis_IsName (k : Nat) : C_lexis_IsName (F_lexis_IsName k) := s_lexis_IsName k

def C_ast_isNamed (φ : ByteArray → Bool → Option Bool) : Prop := ∀ ⦃x1 : ByteArray⦄ ⦃x2 : Bool⦄ ⦃r : Bool⦄, φ x1 x2 = some r → ∀ ⦃w0 : World⦄ ⦃h0 : Hp⦄, Sub h0 w0 →
  Calls Tryz.prog 80 #[.string x1, .bool x2] w0 fun e w1 => ∃ v, e = .returned v ∧ ∃ h1, Stp [] w0 h0 w1 h1 ∧ v = .bool r
set_option maxRecDepth 20000 in
set_option maxHeartbeats 4000000 in
theorem s_ast_isNamed (k : Nat) : C_ast_isNamed (F_ast_isNamed k) := by
  intro x1 x2 r HF w0 h0  hs0 
  have S0 : Stp [] w0 h0 w0 h0 := Stp.refl hs0 _
  refine enter (n := 10) Tryz.func80 rfl Tryz.ntmps80 rfl [(0, .string x1), (1, .bool x2)] rfl ?_
  refine WC.seq ?_
  refine WC.region ?_
  refine WL.val rfl rfl rfl (ov_assign rfl) ?_
  refine WL.nil ?_
  refine WQ.seqN ?_
  refine WC.join (fun E w12 => ∃ (h11 : Hp), ast_isNamed_j1 k x1 = some r ∧ E = [(0, .string x1)] ∧ Stp [] w0 h0 w12 h11 ∧ Hle h0 h11) ?_ ?_
  · rintro E w12 ⟨h11, HF, rfl, S14, le13⟩
    refine WC.seq ?_
    refine WC.region ?_
    refine WL.val rfl rfl rfl (ov_move rfl) ?_
    refine WL.val rfl rfl rfl (ov_eqlS rfl rfl) ?_
    refine WL.val rfl rfl rfl (ov_assign rfl) ?_
    refine WL.nil ?_
    refine WQ.seqN ?_
    refine WC.ret ?_
    refine WQ.ret1 rfl rfl ?_
    obtain rfl := Option.some.inj HF
    exact ⟨_, rfl, h11, S14, rfl⟩
  · intro J15
    refine WC.seq ?_
    refine WC.region ?_
    refine WL.val rfl rfl rfl (ov_move rfl) ?_
    refine WL.nil ?_
    refine WQ.seqN ?_
    refine WC.cond (b := x2) rfl (fun hb3 => ?_) (fun hb3 => ?_)
    · replace HF := bif_t hb3 HF
      refine WC.seq ?_
      refine WC.region ?_
      refine WL.val rfl rfl rfl (ov_move rfl) ?_
      obtain ⟨r4, hr5, HF⟩ := bind_some HF
      refine WL.call rfl rfl rfl (oc_func (vs := [.string x1]) rfl t_ent_100) (ok_lexis_IsName _ hr5 S0.sub) ?_
      rintro _ w7 ⟨h8, s9, rfl⟩
      have S10 := S0.trans0 s9
      refine WL.val rfl rfl rfl (ov_assign rfl) ?_
      refine WL.nil ?_
      refine WQ.seqN ?_
      refine WC.ret ?_
      refine WQ.thenRet ?_
      refine WQ.ret1 rfl rfl ?_
      obtain rfl := Option.some.inj HF
      exact ⟨_, rfl, h8, S10, rfl⟩
    · replace HF := bif_f hb3 HF
      refine WC.skip ?_
      refine WC.to [0] [(0, .string x1)] rfl ?_
      exact J15 ⟨h0, HF, rfl, S0, Hle.refl _⟩
theorem ok_ast_isNamed (k : Nat) : C_ast_isNamed (F_ast_isNamed k) := s_ast_isNamed k

def C_ast_Counter_Exprs (φ : Int → Int → (List Ex) → Int → Option (Bool × Int × Int)) : Prop := ∀ ⦃x3 : Int⦄ ⦃x4 : Int⦄ ⦃xs6 : List Ex⦄ ⦃x9 : Int⦄ ⦃r : Bool × Int × Int⦄, φ x3 x4 xs6 x9 = some r → ∀ ⦃w0 : World⦄ ⦃h0 : Hp⦄ ⦃b1 : Nat⦄ ⦃T2 : Nat⦄ ⦃v7 : Value⦄, Sub h0 w0 → RS h0 v7 xs6 → OB w0 h0 b1 T2 [.int .i64 x3, .int .i64 x4] →
  Calls Tryz.prog 81 #[.pointer (some ⟨b1, 0, none⟩), v7, .int .i64 x9] w0 fun e w1 => ∃ v, e = .returned v ∧ ∃ h1, Stp [b1] w0 h0 w1 h1 ∧ v = .bool r.1 ∧ (OB w1 h1 b1 T2 [.int .i64 r.2.1, .int .i64 r.2.2])
def C_ast_Counter_Expr (φ : Int → Int → Ex → Int → Option (Bool × Int × Int)) : Prop := ∀ ⦃x3 : Int⦄ ⦃x4 : Int⦄ ⦃x6 : Ex⦄ ⦃x9 : Int⦄ ⦃r : Bool × Int × Int⦄, φ x3 x4 x6 x9 = some r → ∀ ⦃w0 : World⦄ ⦃h0 : Hp⦄ ⦃b1 : Nat⦄ ⦃T2 : Nat⦄ ⦃cs7 : List Value⦄, Sub h0 w0 → Rp.R h0 x6 cs7 → OB w0 h0 b1 T2 [.int .i64 x3, .int .i64 x4] →
  Calls Tryz.prog 54 #[.pointer (some ⟨b1, 0, none⟩), .agg cs7.toArray, .int .i64 x9] w0 fun e w1 => ∃ v, e = .returned v ∧ ∃ h1, Stp [b1] w0 h0 w1 h1 ∧ v = .bool r.1 ∧ (OB w1 h1 b1 T2 [.int .i64 r.2.1, .int .i64 r.2.2])
set_option maxRecDepth 20000 in
set_option maxHeartbeats 4000000 in
theorem s_ast_Counter_Exprs (k : Nat) (IH : ∀ j, j ≤ k → C_ast_Counter_Exprs (tie_ast_Counter_Exprs j).ast_Counter_Exprs ∧ C_ast_Counter_Expr (tie_ast_Counter_Exprs j).ast_Counter_Expr) : C_ast_Counter_Exprs (m_ast_Counter_Exprs k (tie_ast_Counter_Exprs k)) := by
  intro x3 x4 xs6 x9 r HF w0 h0 b1 T2 v7 hs0 rs8 ob5
  have S0 : Stp [b1] w0 h0 w0 h0 := Stp.refl hs0 _
  have lt10 : b1 < w0.heap.size := OB.lt ob5
  refine enter (n := 21) Tryz.func81 rfl Tryz.ntmps81 rfl [(0, .pointer (some ⟨b1, 0, none⟩)), (1, v7), (2, .int .i64 x9)] rfl ?_
  refine WC.seq ?_
  refine WC.region ?_
  refine WL.val rfl rfl rfl (ov_assign rfl) ?_
  refine WL.nil ?_
  refine WQ.seqN ?_
  refine WC.seq ?_
  refine WC.seq ?_
  refine WC.region ?_
  refine WL.val rfl rfl rfl (ov_move rfl) ?_
  obtain ⟨A11, c12, rfl, rs13⟩ := RS.form rs8
  refine WL.val rfl rfl rfl (ov_lenL rfl t_slice_30) ?_
  refine WL.val rfl rfl rfl (ov_move rfl) ?_
  refine WL.nil ?_
  refine WQ.seqN ?_
  refine WC.block ?_
  refine WC.loop ?_
  refine WP.to [0, 2, 9, 10, 11] [(0, .pointer (some ⟨b1, 0, none⟩)), (2, .int .i64 x9), (9, .slice A11 (xs6).length c12), (10, .int .i64 (xs6.length : Int)), (11, .int .i64 0)] rfl ?_
  refine WP_rule (K := k) (fun j E w15 => ∃ (h14 : Hp) (x18 : Int) (x19 : Int) (x20 : Int), (tie_ast_Counter_Exprs j).ast_Counter_Exprs_l1 xs6 x9 x18 x19 x20 = some r ∧ E = [(0, .pointer (some ⟨b1, 0, none⟩)), (2, .int .i64 x9), (9, .slice A11 (xs6).length c12), (10, .int .i64 (xs6.length : Int)), (11, .int .i64 x18)] ∧ Stp [b1] w0 h0 w15 h14 ∧ Hle h0 h14 ∧ OB w15 h14 b1 T2 [.int .i64 x19, .int .i64 x20]) ?_ ?_ (j := k) (Nat.le_refl _) ?_
  · rintro E w15 ⟨_, _, _, _, HF, _⟩; cases HF
  · rintro j22 hj24 IHL23 E w15 ⟨h14, x18, x19, x20, HF, rfl, S17, le16, ob21⟩
    refine WC.seq ?_
    refine WC.region ?_
    refine WL.val rfl rfl rfl (ov_lss rfl rfl) ?_
    refine WL.nil ?_
    refine WQ.seqN ?_
    refine WC.join (fun E w27 => ∃ (h26 : Hp), ast_Counter_Exprs_j2 j22 (tie_ast_Counter_Exprs j22) xs6 x9 x18 x19 x20 = some r ∧ E = [(0, .pointer (some ⟨b1, 0, none⟩)), (2, .int .i64 x9), (9, .slice A11 (xs6).length c12), (10, .int .i64 (xs6.length : Int)), (11, .int .i64 x18)] ∧ Stp [b1] w0 h0 w27 h26 ∧ Hle h14 h26 ∧ OB w27 h26 b1 T2 [.int .i64 x19, .int .i64 x20]) ?_ ?_
    · rintro E w27 ⟨h26, HF, rfl, S29, le28, ob30⟩
      refine WC.seq ?_
      refine WC.block ?_
      refine WC.seq ?_
      refine WC.region ?_
      obtain ⟨e31, he32, HF⟩ := bind_some HF
      obtain ⟨b33, o34, rfl, h36, h37, ra35⟩ := RS.atO (rs13.mono ((le16).trans le28)) he32
      obtain ⟨cs38, r39, hc40⟩ := ra35
      refine WL.val rfl rfl rfl (ov_indexAddr rfl rfl t_slice_30 t_size_32 h36 h37) ?_
      refine WL.val rfl rfl rfl (ov_loadN (cs := cs38) rfl t_agg_32 (by rw [Rp.len r39]; exact t_size_32) (fun j v hv => S29.sub.at_ _ _ _ (hc40 j v hv))) ?_
      refine WL.alloc (zs := [.int .i64 0, .int .i64 0, .int .i64 0, .string (⟨#[]⟩ : ByteArray), .string (⟨#[]⟩ : ByteArray), .slice none 0 0]) rfl rfl t_zero_32 rfl S29.sub (fun w41 b42 hb43 s44 ob45 => ?_)
      have ne46 : b1 ≠ b42 := ob30.ne_new hb43
      have g47 : w0.heap.size ≤ b42 := by rw [hb43]; exact S29.size
      have S48 := S29.trans0 s44
      obtain ⟨v49, rfl, rs50⟩ := rp_Ex.1 (Rp.mono (s44.le) r39)
      refine WL.store (vs := [.int .i64 e31.op, .int .i64 e31.kind, .int .i64 e31.n, .string e31.s, .string e31.f, v49]) rfl rfl rfl rfl t_size_32 (one_cons rfl (one_cons rfl (one_cons rfl (one_cons rfl (one_cons rfl (one_cons (RS.one rs50) one_nil)))))) ob45 S48.sub (by simp) (ds := [.int .i64 e31.op, .int .i64 e31.kind, .int .i64 e31.n, .string e31.s, .string e31.f, v49]) rfl (fun w51 s52 ob53 => ?_)
      have S54 := S48.trans1 s52 (.inr g47)
      refine WL.nil ?_
      refine WQ.seqN ?_
      refine WC.seq ?_
      refine WC.region ?_
      refine WL.val rfl rfl rfl (ov_move rfl) ?_
      refine WL.val rfl rfl rfl (ov_loadN (cs := [.int .i64 e31.op, .int .i64 e31.kind, .int .i64 e31.n, .string e31.s, .string e31.f, v49]) rfl t_agg_32 t_size_32 (OB.cells ob53 0 rfl)) ?_
      refine WL.val rfl rfl rfl (ov_move rfl) ?_
      have ob55 := ((ob30.step0 s44).step1 s52 ne46)
      obtain ⟨r56, hr57, HF⟩ := bind_some HF
      refine WL.call rfl rfl rfl (oc_func (vs := [.pointer (some ⟨b1, 0, none⟩), .agg #[.int .i64 e31.op, .int .i64 e31.kind, .int .i64 e31.n, .string e31.s, .string e31.f, v49], .int .i64 x9]) rfl t_ent_54) ((IH _ (Nat.le_trans (Nat.le_of_succ_le hj24) (Nat.le_refl _))).2 hr57 S54.sub (rp_Ex.2 ⟨_, rfl, (rs50.mono (s52.le))⟩) ob55) ?_
      rintro _ w59 ⟨h60, s61, rfl, ob62⟩
      have S63 := S54.trans s61 (in_cons (.inl (by simp)) in_nil)
      refine WL.val rfl rfl rfl (ov_not rfl) ?_
      refine WL.nil ?_
      refine WQ.seqN ?_
      refine WC.cond (b := !r56.1) rfl (fun hb64 => ?_) (fun hb64 => ?_)
      · replace HF := bif_t hb64 HF
        refine WC.seq ?_
        refine WC.region ?_
        refine WL.val rfl rfl rfl (ov_assign rfl) ?_
        refine WL.nil ?_
        refine WQ.seqN ?_
        refine WC.ret ?_
        refine WQ.blockRet ?_
        refine WQ.thenRet ?_
        refine WQ.thenRet ?_
        refine WQ.blockRet ?_
        refine WQ.thenRet ?_
        refine WQ.ret1 rfl rfl ?_
        obtain rfl := Option.some.inj HF
        exact ⟨_, rfl, h60, S63, rfl, ob62⟩
      · replace HF := bif_f hb64 HF
        refine WC.skip ?_
        refine WQ.blockN ?_
        refine WQ.seqN ?_
        refine WC.region ?_
        refine WL.val rfl rfl rfl (ov_add rfl rfl) ?_
        refine WL.val rfl rfl rfl (ov_move rfl) ?_
        refine WL.nil ?_
        refine WQ.loopN ?_
        refine WP.to [0, 2, 9, 10, 11] [(0, .pointer (some ⟨b1, 0, none⟩)), (2, .int .i64 x9), (9, .slice (some ⟨b33, o34, none⟩) (xs6).length c12), (10, .int .i64 (xs6.length : Int)), (11, .int .i64 (IntKind.i64.wrap (x18 + 1)))] rfl ?_
        exact IHL23 j22 (Nat.le_refl _) _ _ ⟨h60, IntKind.i64.wrap (x18 + 1), r56.2.1, r56.2.2, HF, rfl, S63, (le16).trans ((le28).trans ((s44.le).trans ((s52.le).trans s61.le))), ob62⟩
    · intro J65
      refine WC.cond (b := decide ((x18 : Int) < (xs6.length : Int))) rfl (fun hb25 => ?_) (fun hb25 => ?_)
      · replace HF := bif_t hb25 HF
        refine WC.skip ?_
        refine WC.to [0, 2, 9, 10, 11] [(0, .pointer (some ⟨b1, 0, none⟩)), (2, .int .i64 x9), (9, .slice A11 (xs6).length c12), (10, .int .i64 (xs6.length : Int)), (11, .int .i64 x18)] rfl ?_
        exact J65 ⟨h14, HF, rfl, S17, Hle.refl _, ob21⟩
      · replace HF := bif_f hb25 HF
        refine WC.exit ?_
        refine WQ.thenExit ?_
        refine WQ.thenExit ?_
        refine WQ.blockHit ?_
        refine WQ.seqN ?_
        refine WC.seq ?_
        refine WC.region ?_
        refine WL.val rfl rfl rfl (ov_assign rfl) ?_
        refine WL.nil ?_
        refine WQ.seqN ?_
        refine WC.ret ?_
        refine WQ.ret1 rfl rfl ?_
        obtain rfl := Option.some.inj HF
        exact ⟨_, rfl, h14, S17, rfl, ob21⟩
  · exact ⟨h0, 0, x3, x4, HF, rfl, S0, Hle.refl _, ob5⟩
set_option maxRecDepth 20000 in
set_option maxHeartbeats 4000000 in
theorem s_ast_Counter_Expr (k : Nat) (IH : ∀ j, j ≤ k → C_ast_Counter_Exprs (tie_ast_Counter_Exprs j).ast_Counter_Exprs ∧ C_ast_Counter_Expr (tie_ast_Counter_Exprs j).ast_Counter_Expr) : C_ast_Counter_Expr (m_ast_Counter_Expr k (tie_ast_Counter_Exprs k)) := by
  intro x3 x4 x6 x9 r HF w0 h0 b1 T2 cs7 hs0 r8 ob5
  have S0 : Stp [b1] w0 h0 w0 h0 := Stp.refl hs0 _
  have lt10 : b1 < w0.heap.size := OB.lt ob5
  refine enter (n := 82) Tryz.func54 rfl Tryz.ntmps54 rfl [(0, .pointer (some ⟨b1, 0, none⟩)), (1, .agg cs7.toArray), (2, .int .i64 x9)] rfl ?_
  refine WC.seq ?_
  refine WC.region ?_
  obtain ⟨v11, rfl, rs12⟩ := rp_Ex.1 r8
  refine WL.box (cs := [.int .i64 x6.op, .int .i64 x6.kind, .int .i64 x6.n, .string x6.s, .string x6.f, v11]) rfl rfl rfl rfl S0.sub (fun w13 b14 hb15 s16 ob17 => ?_)
  have ne18 : b1 ≠ b14 := ob5.ne_new hb15
  have g19 : w0.heap.size ≤ b14 := by rw [hb15]; exact S0.size
  have S20 := S0.trans0 s16
  refine WL.val rfl rfl rfl (ov_assign rfl) ?_
  refine WL.nil ?_
  refine WQ.seqN ?_
  refine WC.join (fun E w47 => ∃ (h46 : Hp) (x50 : Int) (x51 : Int), ast_Counter_Expr_j2 k (tie_ast_Counter_Exprs k) x6 x9 x50 x51 = some r ∧ E = [(0, .pointer (some ⟨b1, 0, none⟩)), (2, .int .i64 x9), (4, .pointer (some ⟨b14, 0, none⟩))] ∧ Stp [b1] w0 h0 w47 h46 ∧ Hle h0 h46 ∧ OB w47 h46 b1 T2 [.int .i64 x50, .int .i64 x51] ∧ OB w47 h46 b14 32 [.int .i64 x6.op, .int .i64 x6.kind, .int .i64 x6.n, .string x6.s, .string x6.f, v11]) ?_ ?_
  · rintro E w47 ⟨h46, x50, x51, HF, rfl, S49, le48, ob52, ob53⟩
    refine WC.seq ?_
    refine WC.region ?_
    refine WL.val rfl rfl rfl (ov_assign rfl) ?_
    refine WL.val rfl rfl rfl (ov_assign rfl) ?_
    refine WL.val rfl rfl rfl (ov_assign rfl) ?_
    refine WL.nil ?_
    refine WQ.seqN ?_
    refine WC.join (fun E w96 => ∃ (h95 : Hp) (x99 : Bool) (x100 : Bool) (x101 : Int), ast_Counter_Expr_j4 k (tie_ast_Counter_Exprs k) x6 x9 x50 x51 x99 x100 x101 = some r ∧ E = [(0, .pointer (some ⟨b1, 0, none⟩)), (2, .int .i64 x9), (4, .pointer (some ⟨b14, 0, none⟩)), (7, .bool x99), (8, .bool x100), (9, .int .i64 x101)] ∧ Stp [b1] w0 h0 w96 h95 ∧ Hle h46 h95 ∧ OB w96 h95 b1 T2 [.int .i64 x50, .int .i64 x51] ∧ OB w96 h95 b14 32 [.int .i64 x6.op, .int .i64 x6.kind, .int .i64 x6.n, .string x6.s, .string x6.f, v11]) ?_ ?_
    · rintro E w96 ⟨h95, x99, x100, x101, HF, rfl, S98, le97, ob102, ob103⟩
      refine WC.seq ?_
      refine WC.region ?_
      refine WL.val rfl rfl rfl (ov_fieldAddr rfl t_field_32_3) ?_
      refine WL.val rfl rfl rfl (ov_load1 rfl t_agg_9 (OB.cell ob103 (j := 3) rfl)) ?_
      refine WL.val rfl rfl rfl (ov_move rfl) ?_
      obtain ⟨r104, hr105, HF⟩ := bind_some HF
      refine WL.call rfl rfl rfl (oc_func (vs := [.string x6.s, .bool x99]) rfl t_ent_80) (ok_ast_isNamed _ hr105 S98.sub) ?_
      rintro _ w107 ⟨h108, s109, rfl⟩
      have S110 := S98.trans0 s109
      refine WL.val rfl rfl rfl (ov_move rfl) ?_
      refine WL.split 61 (b := r104) rfl (fun hb111 => ?_) (fun hb111 => ?_)
      · replace HF := bif_t hb111 HF
        refine WL.val rfl rfl rfl (ov_fieldAddr rfl t_field_32_4) ?_
        have ob112 := (ob103.step0 s109)
        refine WL.val rfl rfl rfl (ov_load1 rfl t_agg_9 (OB.cell ob112 (j := 4) rfl)) ?_
        refine WL.val rfl rfl rfl (ov_move rfl) ?_
        obtain ⟨r113, hr114, HF⟩ := bind_some HF
        refine WL.call rfl rfl rfl (oc_func (vs := [.string x6.f, .bool x100]) rfl t_ent_80) (ok_ast_isNamed _ hr114 S110.sub) ?_
        rintro _ w116 ⟨h117, s118, rfl⟩
        have S119 := S110.trans0 s118
        refine WL.val rfl rfl rfl (ov_pickT rfl rfl) ?_
        refine WL.val rfl rfl rfl (ov_move rfl) ?_
        refine WL.split 67 (b := r113) rfl (fun hb120 => ?_) (fun hb120 => ?_)
        · replace HF := bif_t hb120 HF
          refine WL.val rfl rfl rfl (ov_fieldAddr rfl t_field_32_5) ?_
          have ob121 := (ob112.step0 s118)
          refine WL.val rfl rfl rfl (ov_load1 rfl t_agg_30 (OB.cell ob121 (j := 5) rfl)) ?_
          obtain ⟨A122, c123, rfl, rs124⟩ := RS.form (rs12.mono ((s16.le).trans ((le48).trans ((le97).trans ((s109.le).trans s118.le)))))
          refine WL.val rfl rfl rfl (ov_lenL rfl t_slice_30) ?_
          refine WL.val rfl rfl rfl (ov_move rfl) ?_
          refine WL.val rfl rfl rfl (ov_eql rfl rfl) ?_
          refine WL.val rfl rfl rfl (ov_pickT rfl rfl) ?_
          refine WL.val rfl rfl rfl (ov_move rfl) ?_
          refine WL.split 74 (b := ((x6.args.length : Int) : Int) == x101) rfl (fun hb125 => ?_) (fun hb125 => ?_)
          · replace HF := bif_t hb125 HF
            refine WL.val rfl rfl rfl (ov_move rfl) ?_
            refine WL.val rfl rfl rfl (ov_fieldAddr rfl t_field_32_5) ?_
            refine WL.val rfl rfl rfl (ov_load1 rfl t_agg_30 (OB.cell ob121 (j := 5) rfl)) ?_
            refine WL.val rfl rfl rfl (ov_move rfl) ?_
            refine WL.val rfl rfl rfl (ov_add rfl rfl) ?_
            have ob126 := ((ob102.step0 s109).step0 s118)
            obtain ⟨r127, hr128, HF⟩ := bind_some HF
            refine WL.call rfl rfl rfl (oc_func (vs := [.pointer (some ⟨b1, 0, none⟩), .slice A122 (x6.args).length c123, .int .i64 (IntKind.i64.wrap (x9 + 1))]) rfl t_ent_81) ((IH _ (Nat.le_refl _)).1 hr128 S119.sub rs124 ob126) ?_
            rintro _ w130 ⟨h131, s132, rfl, ob133⟩
            have S134 := S119.trans s132 (in_cons (.inl (by simp)) in_nil)
            refine WL.val rfl rfl rfl (ov_pickT rfl rfl) ?_
            refine WL.val rfl rfl rfl (ov_assign rfl) ?_
            refine WL.nil ?_
            refine WQ.seqN ?_
            refine WC.ret ?_
            refine WQ.ret1 rfl rfl ?_
            obtain rfl := Option.some.inj HF
            exact ⟨_, rfl, h131, S134, rfl, ob133⟩
          · replace HF := bif_f hb125 HF
            refine WL.pass rfl rfl rfl ?_
            refine WL.pass rfl rfl rfl ?_
            refine WL.pass rfl rfl rfl ?_
            refine WL.pass rfl rfl rfl ?_
            refine WL.pass rfl rfl rfl ?_
            refine WL.pass rfl rfl rfl ?_
            refine WL.val rfl rfl rfl (ov_pickF rfl rfl) ?_
            refine WL.val rfl rfl rfl (ov_assign rfl) ?_
            refine WL.nil ?_
            refine WQ.seqN ?_
            refine WC.ret ?_
            have ob135 := ((ob102.step0 s109).step0 s118)
            refine WQ.ret1 rfl rfl ?_
            obtain rfl := Option.some.inj HF
            exact ⟨_, rfl, h117, S119, rfl, ob135⟩
        · replace HF := bif_f hb120 HF
          refine WL.pass rfl rfl rfl ?_
          refine WL.pass rfl rfl rfl ?_
          refine WL.pass rfl rfl rfl ?_
          refine WL.pass rfl rfl rfl ?_
          refine WL.pass rfl rfl rfl ?_
          refine WL.val rfl rfl rfl (ov_pickF rfl rfl) ?_
          refine WL.val rfl rfl rfl (ov_move rfl) ?_
          refine WL.pass rfl rfl rfl ?_
          refine WL.pass rfl rfl rfl ?_
          refine WL.pass rfl rfl rfl ?_
          refine WL.pass rfl rfl rfl ?_
          refine WL.pass rfl rfl rfl ?_
          refine WL.pass rfl rfl rfl ?_
          refine WL.val rfl rfl rfl (ov_pickF rfl rfl) ?_
          refine WL.val rfl rfl rfl (ov_assign rfl) ?_
          refine WL.nil ?_
          refine WQ.seqN ?_
          refine WC.ret ?_
          have ob136 := ((ob102.step0 s109).step0 s118)
          refine WQ.ret1 rfl rfl ?_
          obtain rfl := Option.some.inj HF
          exact ⟨_, rfl, h117, S119, rfl, ob136⟩
      · replace HF := bif_f hb111 HF
        refine WL.pass rfl rfl rfl ?_
        refine WL.pass rfl rfl rfl ?_
        refine WL.pass rfl rfl rfl ?_
        refine WL.pass rfl rfl rfl ?_
        refine WL.val rfl rfl rfl (ov_pickF rfl rfl) ?_
        refine WL.val rfl rfl rfl (ov_move rfl) ?_
        refine WL.pass rfl rfl rfl ?_
        refine WL.pass rfl rfl rfl ?_
        refine WL.pass rfl rfl rfl ?_
        refine WL.pass rfl rfl rfl ?_
        refine WL.pass rfl rfl rfl ?_
        refine WL.val rfl rfl rfl (ov_pickF rfl rfl) ?_
        refine WL.val rfl rfl rfl (ov_move rfl) ?_
        refine WL.pass rfl rfl rfl ?_
        refine WL.pass rfl rfl rfl ?_
        refine WL.pass rfl rfl rfl ?_
        refine WL.pass rfl rfl rfl ?_
        refine WL.pass rfl rfl rfl ?_
        refine WL.pass rfl rfl rfl ?_
        refine WL.val rfl rfl rfl (ov_pickF rfl rfl) ?_
        refine WL.val rfl rfl rfl (ov_assign rfl) ?_
        refine WL.nil ?_
        refine WQ.seqN ?_
        refine WC.ret ?_
        have ob137 := (ob102.step0 s109)
        refine WQ.ret1 rfl rfl ?_
        obtain rfl := Option.some.inj HF
        exact ⟨_, rfl, h108, S110, rfl, ob137⟩
    · intro J138
      refine WC.seq ?_
      refine WC.region ?_
      refine WL.val rfl rfl rfl (ov_fieldAddr rfl t_field_32_0) ?_
      refine WL.val rfl rfl rfl (ov_load1 rfl t_agg_3 (OB.cell ob53 (j := 0) rfl)) ?_
      refine WL.nil ?_
      refine WQ.seqN ?_
      refine WC.block ?_
      refine WC.seq ?_
      refine WC.region ?_
      refine WL.val rfl rfl rfl (ov_eql rfl rfl) ?_
      refine WL.val rfl rfl rfl (ov_assign rfl) ?_
      refine WL.nil ?_
      refine WQ.seqN ?_
      refine WC.cond (b := (x6.op : Int) == 1) rfl (fun hb54 => ?_) (fun hb54 => ?_)
      · replace HF := bif_t hb54 HF
        refine WC.seq ?_
        refine WC.region ?_
        refine WL.val rfl rfl rfl (ov_assign rfl) ?_
        refine WL.nil ?_
        refine WQ.seqN ?_
        refine WC.seq ?_
        refine WC.region ?_
        refine WL.val rfl rfl rfl (ov_fieldAddr rfl t_field_32_1) ?_
        refine WL.val rfl rfl rfl (ov_load1 rfl t_agg_3 (OB.cell ob53 (j := 1) rfl)) ?_
        refine WL.val rfl rfl rfl (ov_fieldAddr rfl t_field_32_2) ?_
        refine WL.val rfl rfl rfl (ov_load1 rfl t_agg_3 (OB.cell ob53 (j := 2) rfl)) ?_
        obtain ⟨r55, hr56, HF⟩ := bind_some HF
        refine WL.call rfl rfl rfl (oc_func (vs := [.int .i64 x6.kind, .int .i64 x6.n]) rfl t_ent_33) (ok_ast_IsConst _ hr56 S49.sub) ?_
        rintro _ w58 ⟨h59, s60, rfl⟩
        have S61 := S49.trans0 s60
        refine WL.val rfl rfl rfl (ov_not rfl) ?_
        refine WL.nil ?_
        refine WQ.seqN ?_
        refine WC.cond (b := !r55) rfl (fun hb62 => ?_) (fun hb62 => ?_)
        · replace HF := bif_t hb62 HF
          refine WC.seq ?_
          refine WC.region ?_
          refine WL.val rfl rfl rfl (ov_assign rfl) ?_
          refine WL.nil ?_
          refine WQ.seqN ?_
          refine WC.ret ?_
          refine WQ.blockRet ?_
          refine WQ.thenRet ?_
          have ob63 := (ob52.step0 s60)
          refine WQ.ret1 rfl rfl ?_
          obtain rfl := Option.some.inj HF
          exact ⟨_, rfl, h59, S61, rfl, ob63⟩
        · replace HF := bif_f hb62 HF
          refine WC.skip ?_
          refine WQ.blockN ?_
          have ob139 := (ob52.step0 s60)
          have ob140 := (ob53.step0 s60)
          refine WC.to [0, 2, 4, 7, 8, 9] [(0, .pointer (some ⟨b1, 0, none⟩)), (2, .int .i64 x9), (4, .pointer (some ⟨b14, 0, none⟩)), (7, .bool false), (8, .bool false), (9, .int .i64 0)] rfl ?_
          exact J138 ⟨h59, false, false, 0, HF, rfl, S61, s60.le, ob139, ob140⟩
      · replace HF := bif_f hb54 HF
        refine WC.seq ?_
        refine WC.region ?_
        refine WL.val rfl rfl rfl (ov_eql rfl rfl) ?_
        refine WL.val rfl rfl rfl (ov_assign rfl) ?_
        refine WL.nil ?_
        refine WQ.seqN ?_
        refine WC.cond (b := (x6.op : Int) == 2) rfl (fun hb64 => ?_) (fun hb64 => ?_)
        · replace HF := bif_t hb64 HF
          refine WC.region ?_
          refine WL.val rfl rfl rfl (ov_assign rfl) ?_
          refine WL.val rfl rfl rfl (ov_assign rfl) ?_
          refine WL.nil ?_
          refine WQ.blockN ?_
          refine WC.to [0, 2, 4, 7, 8, 9] [(0, .pointer (some ⟨b1, 0, none⟩)), (2, .int .i64 x9), (4, .pointer (some ⟨b14, 0, none⟩)), (7, .bool true), (8, .bool false), (9, .int .i64 0)] rfl ?_
          exact J138 ⟨h46, true, false, 0, HF, rfl, S49, Hle.refl _, ob52, ob53⟩
        · replace HF := bif_f hb64 HF
          refine WC.seq ?_
          refine WC.region ?_
          refine WL.val rfl rfl rfl (ov_eql rfl rfl) ?_
          refine WL.val rfl rfl rfl (ov_assign rfl) ?_
          refine WL.nil ?_
          refine WQ.seqN ?_
          refine WC.cond (b := (x6.op : Int) == 3) rfl (fun hb65 => ?_) (fun hb65 => ?_)
          · replace HF := bif_t hb65 HF
            refine WC.region ?_
            refine WL.val rfl rfl rfl (ov_assign rfl) ?_
            refine WL.val rfl rfl rfl (ov_assign rfl) ?_
            refine WL.val rfl rfl rfl (ov_assign rfl) ?_
            refine WL.nil ?_
            refine WQ.blockN ?_
            refine WC.to [0, 2, 4, 7, 8, 9] [(0, .pointer (some ⟨b1, 0, none⟩)), (2, .int .i64 x9), (4, .pointer (some ⟨b14, 0, none⟩)), (7, .bool true), (8, .bool true), (9, .int .i64 0)] rfl ?_
            exact J138 ⟨h46, true, true, 0, HF, rfl, S49, Hle.refl _, ob52, ob53⟩
          · replace HF := bif_f hb65 HF
            refine WC.seq ?_
            refine WC.region ?_
            refine WL.val rfl rfl rfl (ov_eql rfl rfl) ?_
            refine WL.val rfl rfl rfl (ov_assign rfl) ?_
            refine WL.nil ?_
            refine WQ.seqN ?_
            refine WC.cond (b := (x6.op : Int) == 4) rfl (fun hb66 => ?_) (fun hb66 => ?_)
            · replace HF := bif_t hb66 HF
              refine WC.region ?_
              refine WL.val rfl rfl rfl (ov_assign rfl) ?_
              refine WL.val rfl rfl rfl (ov_assign rfl) ?_
              refine WL.nil ?_
              refine WQ.blockN ?_
              refine WC.to [0, 2, 4, 7, 8, 9] [(0, .pointer (some ⟨b1, 0, none⟩)), (2, .int .i64 x9), (4, .pointer (some ⟨b14, 0, none⟩)), (7, .bool true), (8, .bool false), (9, .int .i64 1)] rfl ?_
              exact J138 ⟨h46, true, false, 1, HF, rfl, S49, Hle.refl _, ob52, ob53⟩
            · replace HF := bif_f hb66 HF
              refine WC.seq ?_
              refine WC.region ?_
              refine WL.val rfl rfl rfl (ov_eql rfl rfl) ?_
              refine WL.val rfl rfl rfl (ov_assign rfl) ?_
              refine WL.nil ?_
              refine WQ.seqN ?_
              refine WC.cond (b := (x6.op : Int) == 5) rfl (fun hb67 => ?_) (fun hb67 => ?_)
              · replace HF := bif_t hb67 HF
                obtain ⟨A68, c69, rfl, rs70⟩ := RS.form (rs12.mono ((s16.le).trans le48))
                refine WC.drawn (m := 4) [(0, .pointer (some ⟨b1, 0, none⟩)), (2, .int .i64 x9), (4, .pointer (some ⟨b14, 0, none⟩)), (8, .bool false), (9, .int .i64 2)] [0, 2, 4, 8, 9] rfl (fun i v w h => match i with | 0 => v = .pointer (some ⟨b14, 5, none⟩) | 1 => v = .slice A68 (x6.args).length c69 | 2 => v = .int .i64 (x6.args.length : Int) | 3 => v = .bool true | _ => True) t_mixed S49.sub rfl rfl rfl rfl rfl ?_ ?_ ?_
                · intro i v w h w2 h2 hΦ hst
                  match i, hΦ with
                  | 0, hΦ => exact hΦ
                  | 1, hΦ => exact hΦ
                  | 2, hΦ => exact hΦ
                  | 3, hΦ => exact hΦ
                  | i + 4, _ => exact trivial
                · refine ⟨?_, ?_, ?_, ?_, trivial⟩
                  · intro a w71 h72 s73 hat hF
                    exact front_val (show At _ [(0, .pointer (some ⟨b1, 0, none⟩)), (2, .int .i64 x9), (4, .pointer (some ⟨b14, 0, none⟩)), (8, .bool false), (9, .int .i64 2)] _ from hat) rfl (ov_fieldAddr rfl t_field_32_5) s73.sub (by exact rfl)
                  · intro a w71 h72 s73 hat hF
                    obtain hv0 := hF 0 51 rfl rfl
                    have ob74 := (ob53.step0 s73)
                    exact front_val (show At _ [(51, .pointer (some ⟨b14, 5, none⟩)), (0, .pointer (some ⟨b1, 0, none⟩)), (2, .int .i64 x9), (4, .pointer (some ⟨b14, 0, none⟩)), (8, .bool false), (9, .int .i64 2)] _ from (At.cons hat hv0)) rfl (ov_load1 rfl t_agg_30 (OB.cell ob74 (j := 5) rfl)) s73.sub (by exact rfl)
                  · intro a w71 h72 s73 hat hF
                    obtain hv1 := hF 1 52 rfl rfl
                    exact front_val (show At _ [(52, .slice A68 (x6.args).length c69), (0, .pointer (some ⟨b1, 0, none⟩)), (2, .int .i64 x9), (4, .pointer (some ⟨b14, 0, none⟩)), (8, .bool false), (9, .int .i64 2)] _ from (At.cons hat hv1)) rfl (ov_lenL rfl t_slice_30) s73.sub (by exact rfl)
                  · intro a w71 h72 s73 hat hF
                    exact front_val (show At _ [(0, .pointer (some ⟨b1, 0, none⟩)), (2, .int .i64 x9), (4, .pointer (some ⟨b14, 0, none⟩)), (8, .bool false), (9, .int .i64 2)] _ from hat) rfl (ov_assign rfl) s73.sub (by exact rfl)
                · intro a w71 h72 s73 hat hF
                  obtain hv0 := hF 0 51 (by decide) rfl
                  obtain hv1 := hF 1 52 (by decide) rfl
                  obtain hv2 := hF 2 53 (by decide) rfl
                  obtain hv3 := hF 3 7 (by decide) rfl
                  refine WL.at_ [(7, .bool true), (53, .int .i64 (x6.args.length : Int)), (52, .slice A68 (x6.args).length c69), (51, .pointer (some ⟨b14, 5, none⟩)), (0, .pointer (some ⟨b1, 0, none⟩)), (2, .int .i64 x9), (4, .pointer (some ⟨b14, 0, none⟩)), (8, .bool false), (9, .int .i64 2)] (At.cons (At.cons (At.cons (At.cons hat hv0) hv1) hv2) hv3) ?_
                  have S75 := S49.trans0 s73
                  refine WL.val rfl rfl rfl (ov_assign rfl) ?_
                  refine WL.nil ?_
                  refine WQ.blockN ?_
                  have ob141 := (ob52.step0 s73)
                  have ob142 := (ob53.step0 s73)
                  refine WC.to [0, 2, 4, 7, 8, 9] [(0, .pointer (some ⟨b1, 0, none⟩)), (2, .int .i64 x9), (4, .pointer (some ⟨b14, 0, none⟩)), (7, .bool true), (8, .bool false), (9, .int .i64 (x6.args.length : Int))] rfl ?_
                  exact J138 ⟨h72, true, false, (x6.args.length : Int), HF, rfl, S75, s73.le, ob141, ob142⟩
              · replace HF := bif_f hb67 HF
                refine WC.join (fun E w78 => ∃ (h77 : Hp) (x81 : Bool), ast_Counter_Expr_j3 k (tie_ast_Counter_Exprs k) x6 x9 x50 x51 x81 = some r ∧ E = [(0, .pointer (some ⟨b1, 0, none⟩)), (2, .int .i64 x9), (4, .pointer (some ⟨b14, 0, none⟩)), (7, .bool false), (8, .bool false), (9, .int .i64 2), (54, .bool x81)] ∧ Stp [b1] w0 h0 w78 h77 ∧ Hle h46 h77 ∧ OB w78 h77 b1 T2 [.int .i64 x50, .int .i64 x51] ∧ OB w78 h77 b14 32 [.int .i64 x6.op, .int .i64 x6.kind, .int .i64 x6.n, .string x6.s, .string x6.f, v11]) ?_ ?_
                · rintro E w78 ⟨h77, x81, HF, rfl, S80, le79, ob82, ob83⟩
                  refine WC.cond (b := x81) rfl (fun hb84 => ?_) (fun hb84 => ?_)
                  · replace HF := bif_t hb84 HF
                    refine WC.region ?_
                    refine WL.val rfl rfl rfl (ov_assign rfl) ?_
                    refine WL.nil ?_
                    refine WQ.blockN ?_
                    refine WC.to [0, 2, 4, 7, 8, 9] [(0, .pointer (some ⟨b1, 0, none⟩)), (2, .int .i64 x9), (4, .pointer (some ⟨b14, 0, none⟩)), (7, .bool false), (8, .bool false), (9, .int .i64 1)] rfl ?_
                    exact J138 ⟨h77, false, false, 1, HF, rfl, S80, le79, ob82, ob83⟩
                  · replace HF := bif_f hb84 HF
                    refine WC.seq ?_
                    refine WC.region ?_
                    refine WL.val rfl rfl rfl (ov_fieldAddr rfl t_field_32_0) ?_
                    refine WL.val rfl rfl rfl (ov_load1 rfl t_agg_3 (OB.cell ob83 (j := 0) rfl)) ?_
                    obtain ⟨r85, hr86, HF⟩ := bind_some HF
                    refine WL.call rfl rfl rfl (oc_func (vs := [.int .i64 x6.op, .int .i64 8, .int .i64 21]) rfl t_ent_62) (ok_ast_within _ hr86 S80.sub) ?_
                    rintro _ w88 ⟨h89, s90, rfl⟩
                    have S91 := S80.trans0 s90
                    refine WL.val rfl rfl rfl (ov_not rfl) ?_
                    refine WL.nil ?_
                    refine WQ.seqN ?_
                    refine WC.cond (b := !r85) rfl (fun hb92 => ?_) (fun hb92 => ?_)
                    · replace HF := bif_t hb92 HF
                      refine WC.seq ?_
                      refine WC.region ?_
                      refine WL.val rfl rfl rfl (ov_assign rfl) ?_
                      refine WL.nil ?_
                      refine WQ.seqN ?_
                      refine WC.ret ?_
                      refine WQ.blockRet ?_
                      refine WQ.thenRet ?_
                      have ob93 := (ob82.step0 s90)
                      refine WQ.ret1 rfl rfl ?_
                      obtain rfl := Option.some.inj HF
                      exact ⟨_, rfl, h89, S91, rfl, ob93⟩
                    · replace HF := bif_f hb92 HF
                      refine WC.skip ?_
                      refine WQ.blockN ?_
                      have ob143 := (ob82.step0 s90)
                      have ob144 := (ob83.step0 s90)
                      refine WC.to [0, 2, 4, 7, 8, 9] [(0, .pointer (some ⟨b1, 0, none⟩)), (2, .int .i64 x9), (4, .pointer (some ⟨b14, 0, none⟩)), (7, .bool false), (8, .bool false), (9, .int .i64 2)] rfl ?_
                      exact J138 ⟨h89, false, false, 2, HF, rfl, S91, (le79).trans s90.le, ob143, ob144⟩
                · intro J94
                  refine WC.seq ?_
                  refine WC.region ?_
                  refine WL.val rfl rfl rfl (ov_eql rfl rfl) ?_
                  refine WL.val rfl rfl rfl (ov_assign rfl) ?_
                  refine WL.nil ?_
                  refine WQ.seqN ?_
                  refine WC.cond (b := (x6.op : Int) == 6) rfl (fun hb76 => ?_) (fun hb76 => ?_)
                  · replace HF := bif_t hb76 HF
                    refine WC.skip ?_
                    refine WC.to [0, 2, 4, 7, 8, 9, 54] [(0, .pointer (some ⟨b1, 0, none⟩)), (2, .int .i64 x9), (4, .pointer (some ⟨b14, 0, none⟩)), (7, .bool false), (8, .bool false), (9, .int .i64 2), (54, .bool ((x6.op : Int) == 6))] rfl ?_
                    exact J94 ⟨h46, (x6.op : Int) == 6, HF, rfl, S49, Hle.refl _, ob52, ob53⟩
                  · replace HF := bif_f hb76 HF
                    refine WC.region ?_
                    refine WL.val rfl rfl rfl (ov_eql rfl rfl) ?_
                    refine WL.val rfl rfl rfl (ov_assign rfl) ?_
                    refine WL.nil ?_
                    refine WC.to [0, 2, 4, 7, 8, 9, 54] [(0, .pointer (some ⟨b1, 0, none⟩)), (2, .int .i64 x9), (4, .pointer (some ⟨b14, 0, none⟩)), (7, .bool false), (8, .bool false), (9, .int .i64 2), (54, .bool ((x6.op : Int) == 7))] rfl ?_
                    exact J94 ⟨h46, (x6.op : Int) == 7, HF, rfl, S49, Hle.refl _, ob52, ob53⟩
  · intro J145
    refine WC.join (fun E w35 => ∃ (h34 : Hp) (x38 : Bool) (x39 : Int) (x40 : Int), ast_Counter_Expr_j1 k (tie_ast_Counter_Exprs k) x6 x9 x38 x39 x40 = some r ∧ E = [(0, .pointer (some ⟨b1, 0, none⟩)), (2, .int .i64 x9), (4, .pointer (some ⟨b14, 0, none⟩)), (28, .bool x38)] ∧ Stp [b1] w0 h0 w35 h34 ∧ Hle h0 h34 ∧ OB w35 h34 b1 T2 [.int .i64 x39, .int .i64 x40] ∧ OB w35 h34 b14 32 [.int .i64 x6.op, .int .i64 x6.kind, .int .i64 x6.n, .string x6.s, .string x6.f, v11]) ?_ ?_
    · rintro E w35 ⟨h34, x38, x39, x40, HF, rfl, S37, le36, ob41, ob42⟩
      refine WC.cond (b := x38) rfl (fun hb43 => ?_) (fun hb43 => ?_)
      · replace HF := bif_t hb43 HF
        refine WC.seq ?_
        refine WC.region ?_
        refine WL.val rfl rfl rfl (ov_assign rfl) ?_
        refine WL.nil ?_
        refine WQ.seqN ?_
        refine WC.ret ?_
        refine WQ.thenRet ?_
        refine WQ.ret1 rfl rfl ?_
        obtain rfl := Option.some.inj HF
        exact ⟨_, rfl, h34, S37, rfl, ob41⟩
      · replace HF := bif_f hb43 HF
        refine WC.skip ?_
        refine WC.to [0, 2, 4] [(0, .pointer (some ⟨b1, 0, none⟩)), (2, .int .i64 x9), (4, .pointer (some ⟨b14, 0, none⟩))] rfl ?_
        exact J145 ⟨h34, x39, x40, HF, rfl, S37, le36, ob41, ob42⟩
    · intro J44
      refine WC.region ?_
      refine WL.val rfl rfl rfl (ov_move rfl) ?_
      refine WL.val rfl rfl rfl (ov_move rfl) ?_
      have ob21 := (ob5.step0 s16)
      obtain ⟨r22, hr23, HF⟩ := bind_some HF
      refine WL.call rfl rfl rfl (oc_func (vs := [.pointer (some ⟨b1, 0, none⟩), .int .i64 x9]) rfl t_ent_79) (ok_ast_Counter_Add _ hr23 S20.sub ob21) ?_
      rintro _ w25 ⟨h26, s27, rfl, ob28⟩
      have S29 := S20.trans s27 (in_cons (.inl (by simp)) in_nil)
      refine WL.val rfl rfl rfl (ov_not rfl) ?_
      refine WL.val rfl rfl rfl (ov_move rfl) ?_
      refine WL.split 14 (b := !r22.1) rfl (fun hb30 => ?_) (fun hb30 => ?_)
      · replace HF := bif_t hb30 HF
        refine WL.pass rfl rfl rfl ?_
        refine WL.pass rfl rfl rfl ?_
        refine WL.pass rfl rfl rfl ?_
        refine WL.pass rfl rfl rfl ?_
        refine WL.pass rfl rfl rfl ?_
        refine WL.pass rfl rfl rfl ?_
        refine WL.pass rfl rfl rfl ?_
        refine WL.pass rfl rfl rfl ?_
        refine WL.pass rfl rfl rfl ?_
        refine WL.pass rfl rfl rfl ?_
        refine WL.pass rfl rfl rfl ?_
        refine WL.pass rfl rfl rfl ?_
        refine WL.pass rfl rfl rfl ?_
        refine WL.val rfl rfl rfl (ov_pickT rfl rfl) ?_
        refine WL.nil ?_
        have ob45 := (ob17.step1 s27 (Ne.symm ne18))
        refine WC.to [0, 2, 4, 28] [(0, .pointer (some ⟨b1, 0, none⟩)), (2, .int .i64 x9), (4, .pointer (some ⟨b14, 0, none⟩)), (28, .bool true)] rfl ?_
        exact J44 ⟨h26, true, r22.2.1, r22.2.2, HF, rfl, S29, s27.le, ob28, ob45⟩
      · replace HF := bif_f hb30 HF
        refine WL.val rfl rfl rfl (ov_fieldAddr rfl t_field_32_0) ?_
        have ob31 := (ob17.step1 s27 (Ne.symm ne18))
        refine WL.val rfl rfl rfl (ov_load1 rfl t_agg_3 (OB.cell ob31 (j := 0) rfl)) ?_
        refine WL.val rfl rfl rfl (ov_neq rfl rfl) ?_
        refine WL.val rfl rfl rfl (ov_move rfl) ?_
        refine WL.split 18 (b := (x6.op : Int) != 1) rfl (fun hb32 => ?_) (fun hb32 => ?_)
        · replace HF := bif_t hb32 HF
          refine WL.val rfl rfl rfl (ov_fieldAddr rfl t_field_32_1) ?_
          refine WL.val rfl rfl rfl (ov_load1 rfl t_agg_3 (OB.cell ob31 (j := 1) rfl)) ?_
          refine WL.val rfl rfl rfl (ov_neq rfl rfl) ?_
          refine WL.val rfl rfl rfl (ov_move rfl) ?_
          refine WL.split 22 (b := (x6.kind : Int) != 0) rfl (fun hb33 => ?_) (fun hb33 => ?_)
          · replace HF := bif_t hb33 HF
            refine WL.pass rfl rfl rfl ?_
            refine WL.pass rfl rfl rfl ?_
            refine WL.pass rfl rfl rfl ?_
            refine WL.val rfl rfl rfl (ov_pickT rfl rfl) ?_
            refine WL.val rfl rfl rfl (ov_pickT rfl rfl) ?_
            refine WL.val rfl rfl rfl (ov_pickF rfl rfl) ?_
            refine WL.nil ?_
            refine WC.to [0, 2, 4, 28] [(0, .pointer (some ⟨b1, 0, none⟩)), (2, .int .i64 x9), (4, .pointer (some ⟨b14, 0, none⟩)), (28, .bool true)] rfl ?_
            exact J44 ⟨h26, true, r22.2.1, r22.2.2, HF, rfl, S29, s27.le, ob28, ob31⟩
          · replace HF := bif_f hb33 HF
            refine WL.val rfl rfl rfl (ov_fieldAddr rfl t_field_32_2) ?_
            refine WL.val rfl rfl rfl (ov_load1 rfl t_agg_3 (OB.cell ob31 (j := 2) rfl)) ?_
            refine WL.val rfl rfl rfl (ov_neq rfl rfl) ?_
            refine WL.val rfl rfl rfl (ov_pickF rfl rfl) ?_
            refine WL.val rfl rfl rfl (ov_pickT rfl rfl) ?_
            refine WL.val rfl rfl rfl (ov_pickF rfl rfl) ?_
            refine WL.nil ?_
            refine WC.to [0, 2, 4, 28] [(0, .pointer (some ⟨b1, 0, none⟩)), (2, .int .i64 x9), (4, .pointer (some ⟨b14, 0, none⟩)), (28, .bool ((x6.n : Int) != 0))] rfl ?_
            exact J44 ⟨h26, (x6.n : Int) != 0, r22.2.1, r22.2.2, HF, rfl, S29, s27.le, ob28, ob31⟩
        · replace HF := bif_f hb32 HF
          refine WL.pass rfl rfl rfl ?_
          refine WL.pass rfl rfl rfl ?_
          refine WL.pass rfl rfl rfl ?_
          refine WL.pass rfl rfl rfl ?_
          refine WL.pass rfl rfl rfl ?_
          refine WL.pass rfl rfl rfl ?_
          refine WL.pass rfl rfl rfl ?_
          refine WL.pass rfl rfl rfl ?_
          refine WL.val rfl rfl rfl (ov_pickF rfl rfl) ?_
          refine WL.val rfl rfl rfl (ov_pickF rfl rfl) ?_
          refine WL.nil ?_
          refine WC.to [0, 2, 4, 28] [(0, .pointer (some ⟨b1, 0, none⟩)), (2, .int .i64 x9), (4, .pointer (some ⟨b14, 0, none⟩)), (28, .bool false)] rfl ?_
          exact J44 ⟨h26, false, r22.2.1, r22.2.2, HF, rfl, S29, s27.le, ob28, ob31⟩
theorem all_ast_Counter_Exprs : ∀ k j, j ≤ k → C_ast_Counter_Exprs (tie_ast_Counter_Exprs j).ast_Counter_Exprs ∧ C_ast_Counter_Expr (tie_ast_Counter_Exprs j).ast_Counter_Expr := by
  intro k
  induction k with
  | zero =>
    intro j hj
    obtain rfl : j = 0 := by omega
    exact ⟨(fun _ _ _ _ _ => by intro h; cases h), (fun _ _ _ _ _ => by intro h; cases h)⟩
  | succ k ih =>
    intro j hj
    by_cases h : j ≤ k
    · exact ih j h
    · obtain rfl : j = k + 1 := by omega
      exact ⟨s_ast_Counter_Exprs k ih, s_ast_Counter_Expr k ih⟩
theorem ok_ast_Counter_Exprs (k : Nat) : C_ast_Counter_Exprs (F_ast_Counter_Exprs k) := (all_ast_Counter_Exprs k k (Nat.le_refl _)).1
theorem ok_ast_Counter_Expr (k : Nat) : C_ast_Counter_Expr (F_ast_Counter_Expr k) := (all_ast_Counter_Exprs k k (Nat.le_refl _)).2

def C_ast_Counter_arm_1 (φ : Int → Option Bool) : Prop := ∀ ⦃x1 : Int⦄ ⦃r : Bool⦄, φ x1 = some r → ∀ ⦃w0 : World⦄ ⦃h0 : Hp⦄, Sub h0 w0 →
  Calls Tryz.prog 110 #[.int .i64 x1] w0 fun e w1 => ∃ v, e = .returned v ∧ ∃ h1, Stp [] w0 h0 w1 h1 ∧ v = .bool r
set_option maxRecDepth 20000 in
set_option maxHeartbeats 4000000 in
theorem s_ast_Counter_arm_1 (k : Nat) : C_ast_Counter_arm_1 (F_ast_Counter_arm_1 k) := by
  intro x1 r HF w0 h0  hs0 
  have S0 : Stp [] w0 h0 w0 h0 := Stp.refl hs0 _
  refine enter (n := 6) Tryz.func110 rfl Tryz.ntmps110 rfl [(0, .int .i64 x1)] rfl ?_
  refine WC.seq ?_
  refine WC.region ?_
  refine WL.val rfl rfl rfl (ov_assign rfl) ?_
  refine WL.nil ?_
  refine WQ.seqN ?_
  refine WC.seq ?_
  refine WC.region ?_
  refine WL.val rfl rfl rfl (ov_move rfl) ?_
  obtain ⟨r2, hr3, HF⟩ := bind_some HF
  refine WL.call rfl rfl rfl (oc_func (vs := [.int .i64 x1]) rfl t_ent_34) (ok_ast_IsLabel _ hr3 S0.sub) ?_
  rintro _ w5 ⟨h6, s7, rfl⟩
  have S8 := S0.trans0 s7
  refine WL.val rfl rfl rfl (ov_not rfl) ?_
  refine WL.val rfl rfl rfl (ov_assign rfl) ?_
  refine WL.nil ?_
  refine WQ.seqN ?_
  refine WC.ret ?_
  refine WQ.ret1 rfl rfl ?_
  obtain rfl := Option.some.inj HF
  exact ⟨_, rfl, h6, S8, rfl⟩
theorem ok_ast_Counter_arm_1 (k : Nat) : C_ast_Counter_arm_1 (F_ast_Counter_arm_1 k) := s_ast_Counter_arm_1 k

def C_slices_IndexFunc_int_int (φ : (List Int) → Option Int) : Prop := ∀ ⦃xs1 : List Int⦄ ⦃r : Int⦄, φ xs1 = some r → ∀ ⦃w0 : World⦄ ⦃h0 : Hp⦄ ⦃v2 : Value⦄, Sub h0 w0 → RS h0 v2 xs1 →
  Calls Tryz.prog 126 #[v2, .func (.func 110) #[] #[]] w0 fun e w1 => ∃ v, e = .returned v ∧ ∃ h1, Stp [] w0 h0 w1 h1 ∧ v = .int .i64 r
set_option maxRecDepth 20000 in
set_option maxHeartbeats 4000000 in
theorem s_slices_IndexFunc_int_int (k : Nat) (IH : ∀ j, j ≤ k → C_slices_IndexFunc_int_int (tie_slices_IndexFunc_int_int j).slices_IndexFunc_int_int) : C_slices_IndexFunc_int_int (m_slices_IndexFunc_int_int k (tie_slices_IndexFunc_int_int k)) := by
  intro xs1 r HF w0 h0 v2 hs0 rs3
  have S0 : Stp [] w0 h0 w0 h0 := Stp.refl hs0 _
  refine enter (n := 19) Tryz.func126 rfl Tryz.ntmps126 rfl [(0, v2), (1, .func (.func 110) #[] #[])] rfl ?_
  refine WC.seq ?_
  refine WC.region ?_
  refine WL.val rfl rfl rfl (ov_assign rfl) ?_
  refine WL.nil ?_
  refine WQ.seqN ?_
  refine WC.seq ?_
  refine WC.seq ?_
  refine WC.region ?_
  refine WL.val rfl rfl rfl (ov_move rfl) ?_
  obtain ⟨A4, c5, rfl, rs6⟩ := RS.form rs3
  refine WL.val rfl rfl rfl (ov_lenL rfl t_slice_45) ?_
  refine WL.val rfl rfl rfl (ov_move rfl) ?_
  refine WL.nil ?_
  refine WQ.seqN ?_
  refine WC.block ?_
  refine WC.loop ?_
  refine WP.to [0, 1, 7, 8] [(0, .slice A4 (xs1).length c5), (1, .func (.func 110) #[] #[]), (7, .int .i64 (xs1.length : Int)), (8, .int .i64 0)] rfl ?_
  refine WP_rule (K := k) (fun j E w8 => ∃ (h7 : Hp) (x11 : Int), (tie_slices_IndexFunc_int_int j).slices_IndexFunc_int_int_l1 xs1 x11 = some r ∧ E = [(0, .slice A4 (xs1).length c5), (1, .func (.func 110) #[] #[]), (7, .int .i64 (xs1.length : Int)), (8, .int .i64 x11)] ∧ Stp [] w0 h0 w8 h7 ∧ Hle h0 h7) ?_ ?_ (j := k) (Nat.le_refl _) ?_
  · rintro E w8 ⟨_, _, HF, _⟩; cases HF
  · rintro j12 hj14 IHL13 E w8 ⟨h7, x11, HF, rfl, S10, le9⟩
    refine WC.seq ?_
    refine WC.region ?_
    refine WL.val rfl rfl rfl (ov_lss rfl rfl) ?_
    refine WL.nil ?_
    refine WQ.seqN ?_
    refine WC.join (fun E w17 => ∃ (h16 : Hp), slices_IndexFunc_int_int_j2 j12 (tie_slices_IndexFunc_int_int j12) xs1 x11 = some r ∧ E = [(0, .slice A4 (xs1).length c5), (1, .func (.func 110) #[] #[]), (7, .int .i64 (xs1.length : Int)), (8, .int .i64 x11)] ∧ Stp [] w0 h0 w17 h16 ∧ Hle h7 h16) ?_ ?_
    · rintro E w17 ⟨h16, HF, rfl, S19, le18⟩
      refine WC.seq ?_
      refine WC.block ?_
      refine WC.seq ?_
      refine WC.region ?_
      refine WL.val rfl rfl rfl (ov_move rfl) ?_
      refine WL.val rfl rfl rfl (ov_assign rfl) ?_
      refine WL.nil ?_
      refine WQ.seqN ?_
      refine WC.seq ?_
      refine WC.region ?_
      refine WL.val rfl rfl rfl (ov_move rfl) ?_
      refine WL.val rfl rfl rfl (ov_move rfl) ?_
      refine WL.val rfl rfl rfl (ov_move rfl) ?_
      obtain ⟨e20, he21, HF⟩ := bind_some HF
      obtain ⟨b22, o23, rfl, h25, h26, ra24⟩ := RS.atO (rs6.mono ((le9).trans le18)) he21
      obtain ⟨cs27, r28, hc29⟩ := ra24
      obtain rfl := (show cs27 = _ from r28)
      refine WL.val rfl rfl rfl (ov_indexAddr rfl rfl t_slice_45 t_size_3 h25 h26) ?_
      refine WL.val rfl rfl rfl (ov_load1 rfl t_agg_3 (S19.sub.at_ _ _ _ (hc29 0 _ rfl))) ?_
      obtain ⟨r30, hr31, HF⟩ := bind_some HF
      refine WL.call rfl rfl rfl (oc_val (vs := [.int .i64 e20]) (caps := []) rfl rfl t_ent_110) (ok_ast_Counter_arm_1 _ hr31 S19.sub) ?_
      rintro _ w33 ⟨h34, s35, rfl⟩
      have S36 := S19.trans0 s35
      refine WL.nil ?_
      refine WQ.seqN ?_
      refine WC.cond (b := r30) rfl (fun hb37 => ?_) (fun hb37 => ?_)
      · replace HF := bif_t hb37 HF
        refine WC.seq ?_
        refine WC.region ?_
        refine WL.val rfl rfl rfl (ov_move rfl) ?_
        refine WL.val rfl rfl rfl (ov_assign rfl) ?_
        refine WL.nil ?_
        refine WQ.seqN ?_
        refine WC.ret ?_
        refine WQ.blockRet ?_
        refine WQ.thenRet ?_
        refine WQ.thenRet ?_
        refine WQ.blockRet ?_
        refine WQ.thenRet ?_
        refine WQ.ret1 rfl rfl ?_
        obtain rfl := Option.some.inj HF
        exact ⟨_, rfl, h34, S36, rfl⟩
      · replace HF := bif_f hb37 HF
        refine WC.skip ?_
        refine WQ.blockN ?_
        refine WQ.seqN ?_
        refine WC.region ?_
        refine WL.val rfl rfl rfl (ov_add rfl rfl) ?_
        refine WL.val rfl rfl rfl (ov_move rfl) ?_
        refine WL.nil ?_
        refine WQ.loopN ?_
        refine WP.to [0, 1, 7, 8] [(0, .slice (some ⟨b22, o23, none⟩) (xs1).length c5), (1, .func (.func 110) #[] #[]), (7, .int .i64 (xs1.length : Int)), (8, .int .i64 (IntKind.i64.wrap (x11 + 1)))] rfl ?_
        exact IHL13 j12 (Nat.le_refl _) _ _ ⟨h34, IntKind.i64.wrap (x11 + 1), HF, rfl, S36, (le9).trans ((le18).trans s35.le)⟩
    · intro J38
      refine WC.cond (b := decide ((x11 : Int) < (xs1.length : Int))) rfl (fun hb15 => ?_) (fun hb15 => ?_)
      · replace HF := bif_t hb15 HF
        refine WC.skip ?_
        refine WC.to [0, 1, 7, 8] [(0, .slice A4 (xs1).length c5), (1, .func (.func 110) #[] #[]), (7, .int .i64 (xs1.length : Int)), (8, .int .i64 x11)] rfl ?_
        exact J38 ⟨h7, HF, rfl, S10, Hle.refl _⟩
      · replace HF := bif_f hb15 HF
        refine WC.exit ?_
        refine WQ.thenExit ?_
        refine WQ.thenExit ?_
        refine WQ.blockHit ?_
        refine WQ.seqN ?_
        refine WC.seq ?_
        refine WC.region ?_
        refine WL.val rfl rfl rfl (ov_assign rfl) ?_
        refine WL.nil ?_
        refine WQ.seqN ?_
        refine WC.ret ?_
        refine WQ.ret1 rfl rfl ?_
        obtain rfl := Option.some.inj HF
        exact ⟨_, rfl, h7, S10, rfl⟩
  · exact ⟨h0, 0, HF, rfl, S0, Hle.refl _⟩
theorem all_slices_IndexFunc_int_int : ∀ k j, j ≤ k → C_slices_IndexFunc_int_int (tie_slices_IndexFunc_int_int j).slices_IndexFunc_int_int := by
  intro k
  induction k with
  | zero =>
    intro j hj
    obtain rfl : j = 0 := by omega
    exact (fun _ _ => by intro h; cases h)
  | succ k ih =>
    intro j hj
    by_cases h : j ≤ k
    · exact ih j h
    · obtain rfl : j = k + 1 := by omega
      exact s_slices_IndexFunc_int_int k ih
theorem ok_slices_IndexFunc_int_int (k : Nat) : C_slices_IndexFunc_int_int (F_slices_IndexFunc_int_int k) := (all_slices_IndexFunc_int_int k k (Nat.le_refl _))

def C_slices_ContainsFunc_int_int (φ : (List Int) → Option Bool) : Prop := ∀ ⦃xs1 : List Int⦄ ⦃r : Bool⦄, φ xs1 = some r → ∀ ⦃w0 : World⦄ ⦃h0 : Hp⦄ ⦃v2 : Value⦄, Sub h0 w0 → RS h0 v2 xs1 →
  Calls Tryz.prog 109 #[v2, .func (.func 110) #[] #[]] w0 fun e w1 => ∃ v, e = .returned v ∧ ∃ h1, Stp [] w0 h0 w1 h1 ∧ v = .bool r
set_option maxRecDepth 20000 in
set_option maxHeartbeats 4000000 in
theorem s_slices_ContainsFunc_int_int (k : Nat) : C_slices_ContainsFunc_int_int (F_slices_ContainsFunc_int_int k) := by
  intro xs1 r HF w0 h0 v2 hs0 rs3
  have S0 : Stp [] w0 h0 w0 h0 := Stp.refl hs0 _
  refine enter (n := 9) Tryz.func109 rfl Tryz.ntmps109 rfl [(0, v2), (1, .func (.func 110) #[] #[])] rfl ?_
  refine WC.seq ?_
  refine WC.region ?_
  refine WL.val rfl rfl rfl (ov_assign rfl) ?_
  refine WL.nil ?_
  refine WQ.seqN ?_
  refine WC.seq ?_
  refine WC.region ?_
  refine WL.val rfl rfl rfl (ov_move rfl) ?_
  refine WL.val rfl rfl rfl (ov_move rfl) ?_
  obtain ⟨r4, hr5, HF⟩ := bind_some HF
  refine WL.call rfl rfl rfl (oc_func (vs := [v2, .func (.func 110) #[] #[]]) rfl t_ent_126) (ok_slices_IndexFunc_int_int _ hr5 S0.sub rs3) ?_
  rintro _ w7 ⟨h8, s9, rfl⟩
  have S10 := S0.trans0 s9
  refine WL.val rfl rfl rfl (ov_geq rfl rfl) ?_
  refine WL.val rfl rfl rfl (ov_assign rfl) ?_
  refine WL.nil ?_
  refine WQ.seqN ?_
  refine WC.ret ?_
  refine WQ.ret1 rfl rfl ?_
  obtain rfl := Option.some.inj HF
  exact ⟨_, rfl, h8, S10, rfl⟩
theorem ok_slices_ContainsFunc_int_int (k : Nat) : C_slices_ContainsFunc_int_int (F_slices_ContainsFunc_int_int k) := s_slices_ContainsFunc_int_int k

def C_ast_AreNames_1 (φ : ByteArray → Option Bool) : Prop := ∀ ⦃x1 : ByteArray⦄ ⦃r : Bool⦄, φ x1 = some r → ∀ ⦃w0 : World⦄ ⦃h0 : Hp⦄, Sub h0 w0 →
  Calls Tryz.prog 108 #[.string x1] w0 fun e w1 => ∃ v, e = .returned v ∧ ∃ h1, Stp [] w0 h0 w1 h1 ∧ v = .bool r
set_option maxRecDepth 20000 in
set_option maxHeartbeats 4000000 in
theorem s_ast_AreNames_1 (k : Nat) : C_ast_AreNames_1 (F_ast_AreNames_1 k) := by
  intro x1 r HF w0 h0  hs0 
  have S0 : Stp [] w0 h0 w0 h0 := Stp.refl hs0 _
  refine enter (n := 6) Tryz.func108 rfl Tryz.ntmps108 rfl [(0, .string x1)] rfl ?_
  refine WC.seq ?_
  refine WC.region ?_
  refine WL.val rfl rfl rfl (ov_assign rfl) ?_
  refine WL.nil ?_
  refine WQ.seqN ?_
  refine WC.seq ?_
  refine WC.region ?_
  refine WL.val rfl rfl rfl (ov_move rfl) ?_
  obtain ⟨r2, hr3, HF⟩ := bind_some HF
  refine WL.call rfl rfl rfl (oc_func (vs := [.string x1]) rfl t_ent_100) (ok_lexis_IsName _ hr3 S0.sub) ?_
  rintro _ w5 ⟨h6, s7, rfl⟩
  have S8 := S0.trans0 s7
  refine WL.val rfl rfl rfl (ov_not rfl) ?_
  refine WL.val rfl rfl rfl (ov_assign rfl) ?_
  refine WL.nil ?_
  refine WQ.seqN ?_
  refine WC.ret ?_
  refine WQ.ret1 rfl rfl ?_
  obtain rfl := Option.some.inj HF
  exact ⟨_, rfl, h6, S8, rfl⟩
theorem ok_ast_AreNames_1 (k : Nat) : C_ast_AreNames_1 (F_ast_AreNames_1 k) := s_ast_AreNames_1 k

def C_slices_IndexFunc_string_string (φ : (List ByteArray) → Option Int) : Prop := ∀ ⦃xs1 : List ByteArray⦄ ⦃r : Int⦄, φ xs1 = some r → ∀ ⦃w0 : World⦄ ⦃h0 : Hp⦄ ⦃v2 : Value⦄, Sub h0 w0 → RS h0 v2 xs1 →
  Calls Tryz.prog 125 #[v2, .func (.func 108) #[] #[]] w0 fun e w1 => ∃ v, e = .returned v ∧ ∃ h1, Stp [] w0 h0 w1 h1 ∧ v = .int .i64 r
set_option maxRecDepth 20000 in
set_option maxHeartbeats 4000000 in
theorem s_slices_IndexFunc_string_string (k : Nat) (IH : ∀ j, j ≤ k → C_slices_IndexFunc_string_string (tie_slices_IndexFunc_string_string j).slices_IndexFunc_string_string) : C_slices_IndexFunc_string_string (m_slices_IndexFunc_string_string k (tie_slices_IndexFunc_string_string k)) := by
  intro xs1 r HF w0 h0 v2 hs0 rs3
  have S0 : Stp [] w0 h0 w0 h0 := Stp.refl hs0 _
  refine enter (n := 19) Tryz.func125 rfl Tryz.ntmps125 rfl [(0, v2), (1, .func (.func 108) #[] #[])] rfl ?_
  refine WC.seq ?_
  refine WC.region ?_
  refine WL.val rfl rfl rfl (ov_assign rfl) ?_
  refine WL.nil ?_
  refine WQ.seqN ?_
  refine WC.seq ?_
  refine WC.seq ?_
  refine WC.region ?_
  refine WL.val rfl rfl rfl (ov_move rfl) ?_
  obtain ⟨A4, c5, rfl, rs6⟩ := RS.form rs3
  refine WL.val rfl rfl rfl (ov_lenL rfl t_slice_41) ?_
  refine WL.val rfl rfl rfl (ov_move rfl) ?_
  refine WL.nil ?_
  refine WQ.seqN ?_
  refine WC.block ?_
  refine WC.loop ?_
  refine WP.to [0, 1, 7, 8] [(0, .slice A4 (xs1).length c5), (1, .func (.func 108) #[] #[]), (7, .int .i64 (xs1.length : Int)), (8, .int .i64 0)] rfl ?_
  refine WP_rule (K := k) (fun j E w8 => ∃ (h7 : Hp) (x11 : Int), (tie_slices_IndexFunc_string_string j).slices_IndexFunc_string_string_l1 xs1 x11 = some r ∧ E = [(0, .slice A4 (xs1).length c5), (1, .func (.func 108) #[] #[]), (7, .int .i64 (xs1.length : Int)), (8, .int .i64 x11)] ∧ Stp [] w0 h0 w8 h7 ∧ Hle h0 h7) ?_ ?_ (j := k) (Nat.le_refl _) ?_
  · rintro E w8 ⟨_, _, HF, _⟩; cases HF
  · rintro j12 hj14 IHL13 E w8 ⟨h7, x11, HF, rfl, S10, le9⟩
    refine WC.seq ?_
    refine WC.region ?_
    refine WL.val rfl rfl rfl (ov_lss rfl rfl) ?_
    refine WL.nil ?_
    refine WQ.seqN ?_
    refine WC.join (fun E w17 => ∃ (h16 : Hp), slices_IndexFunc_string_string_j2 j12 (tie_slices_IndexFunc_string_string j12) xs1 x11 = some r ∧ E = [(0, .slice A4 (xs1).length c5), (1, .func (.func 108) #[] #[]), (7, .int .i64 (xs1.length : Int)), (8, .int .i64 x11)] ∧ Stp [] w0 h0 w17 h16 ∧ Hle h7 h16) ?_ ?_
    · rintro E w17 ⟨h16, HF, rfl, S19, le18⟩
      refine WC.seq ?_
      refine WC.block ?_
      refine WC.seq ?_
      refine WC.region ?_
      refine WL.val rfl rfl rfl (ov_move rfl) ?_
      refine WL.val rfl rfl rfl (ov_assign rfl) ?_
      refine WL.nil ?_
      refine WQ.seqN ?_
      refine WC.seq ?_
      refine WC.region ?_
      refine WL.val rfl rfl rfl (ov_move rfl) ?_
      refine WL.val rfl rfl rfl (ov_move rfl) ?_
      refine WL.val rfl rfl rfl (ov_move rfl) ?_
      obtain ⟨e20, he21, HF⟩ := bind_some HF
      obtain ⟨b22, o23, rfl, h25, h26, ra24⟩ := RS.atO (rs6.mono ((le9).trans le18)) he21
      obtain ⟨cs27, r28, hc29⟩ := ra24
      obtain rfl := (show cs27 = _ from r28)
      refine WL.val rfl rfl rfl (ov_indexAddr rfl rfl t_slice_41 t_size_9 h25 h26) ?_
      refine WL.val rfl rfl rfl (ov_load1 rfl t_agg_9 (S19.sub.at_ _ _ _ (hc29 0 _ rfl))) ?_
      obtain ⟨r30, hr31, HF⟩ := bind_some HF
      refine WL.call rfl rfl rfl (oc_val (vs := [.string e20]) (caps := []) rfl rfl t_ent_108) (ok_ast_AreNames_1 _ hr31 S19.sub) ?_
      rintro _ w33 ⟨h34, s35, rfl⟩
      have S36 := S19.trans0 s35
      refine WL.nil ?_
      refine WQ.seqN ?_
      refine WC.cond (b := r30) rfl (fun hb37 => ?_) (fun hb37 => ?_)
      · replace HF := bif_t hb37 HF
        refine WC.seq ?_
        refine WC.region ?_
        refine WL.val rfl rfl rfl (ov_move rfl) ?_
        refine WL.val rfl rfl rfl (ov_assign rfl) ?_
        refine WL.nil ?_
        refine WQ.seqN ?_
        refine WC.ret ?_
        refine WQ.blockRet ?_
        refine WQ.thenRet ?_
        refine WQ.thenRet ?_
        refine WQ.blockRet ?_
        refine WQ.thenRet ?_
        refine WQ.ret1 rfl rfl ?_
        obtain rfl := Option.some.inj HF
        exact ⟨_, rfl, h34, S36, rfl⟩
      · replace HF := bif_f hb37 HF
        refine WC.skip ?_
        refine WQ.blockN ?_
        refine WQ.seqN ?_
        refine WC.region ?_
        refine WL.val rfl rfl rfl (ov_add rfl rfl) ?_
        refine WL.val rfl rfl rfl (ov_move rfl) ?_
        refine WL.nil ?_
        refine WQ.loopN ?_
        refine WP.to [0, 1, 7, 8] [(0, .slice (some ⟨b22, o23, none⟩) (xs1).length c5), (1, .func (.func 108) #[] #[]), (7, .int .i64 (xs1.length : Int)), (8, .int .i64 (IntKind.i64.wrap (x11 + 1)))] rfl ?_
        exact IHL13 j12 (Nat.le_refl _) _ _ ⟨h34, IntKind.i64.wrap (x11 + 1), HF, rfl, S36, (le9).trans ((le18).trans s35.le)⟩
    · intro J38
      refine WC.cond (b := decide ((x11 : Int) < (xs1.length : Int))) rfl (fun hb15 => ?_) (fun hb15 => ?_)
      · replace HF := bif_t hb15 HF
        refine WC.skip ?_
        refine WC.to [0, 1, 7, 8] [(0, .slice A4 (xs1).length c5), (1, .func (.func 108) #[] #[]), (7, .int .i64 (xs1.length : Int)), (8, .int .i64 x11)] rfl ?_
        exact J38 ⟨h7, HF, rfl, S10, Hle.refl _⟩
      · replace HF := bif_f hb15 HF
        refine WC.exit ?_
        refine WQ.thenExit ?_
        refine WQ.thenExit ?_
        refine WQ.blockHit ?_
        refine WQ.seqN ?_
        refine WC.seq ?_
        refine WC.region ?_
        refine WL.val rfl rfl rfl (ov_assign rfl) ?_
        refine WL.nil ?_
        refine WQ.seqN ?_
        refine WC.ret ?_
        refine WQ.ret1 rfl rfl ?_
        obtain rfl := Option.some.inj HF
        exact ⟨_, rfl, h7, S10, rfl⟩
  · exact ⟨h0, 0, HF, rfl, S0, Hle.refl _⟩
theorem all_slices_IndexFunc_string_string : ∀ k j, j ≤ k → C_slices_IndexFunc_string_string (tie_slices_IndexFunc_string_string j).slices_IndexFunc_string_string := by
  intro k
  induction k with
  | zero =>
    intro j hj
    obtain rfl : j = 0 := by omega
    exact (fun _ _ => by intro h; cases h)
  | succ k ih =>
    intro j hj
    by_cases h : j ≤ k
    · exact ih j h
    · obtain rfl : j = k + 1 := by omega
      exact s_slices_IndexFunc_string_string k ih
theorem ok_slices_IndexFunc_string_string (k : Nat) : C_slices_IndexFunc_string_string (F_slices_IndexFunc_string_string k) := (all_slices_IndexFunc_string_string k k (Nat.le_refl _))

def C_slices_ContainsFunc_string_string (φ : (List ByteArray) → Option Bool) : Prop := ∀ ⦃xs1 : List ByteArray⦄ ⦃r : Bool⦄, φ xs1 = some r → ∀ ⦃w0 : World⦄ ⦃h0 : Hp⦄ ⦃v2 : Value⦄, Sub h0 w0 → RS h0 v2 xs1 →
  Calls Tryz.prog 107 #[v2, .func (.func 108) #[] #[]] w0 fun e w1 => ∃ v, e = .returned v ∧ ∃ h1, Stp [] w0 h0 w1 h1 ∧ v = .bool r
set_option maxRecDepth 20000 in
set_option maxHeartbeats 4000000 in
theorem s_slices_ContainsFunc_string_string (k : Nat) : C_slices_ContainsFunc_string_string (F_slices_ContainsFunc_string_string k) := by
  intro xs1 r HF w0 h0 v2 hs0 rs3
  have S0 : Stp [] w0 h0 w0 h0 := Stp.refl hs0 _
  refine enter (n := 9) Tryz.func107 rfl Tryz.ntmps107 rfl [(0, v2), (1, .func (.func 108) #[] #[])] rfl ?_
  refine WC.seq ?_
  refine WC.region ?_
  refine WL.val rfl rfl rfl (ov_assign rfl) ?_
  refine WL.nil ?_
  refine WQ.seqN ?_
  refine WC.seq ?_
  refine WC.region ?_
  refine WL.val rfl rfl rfl (ov_move rfl) ?_
  refine WL.val rfl rfl rfl (ov_move rfl) ?_
  obtain ⟨r4, hr5, HF⟩ := bind_some HF
  refine WL.call rfl rfl rfl (oc_func (vs := [v2, .func (.func 108) #[] #[]]) rfl t_ent_125) (ok_slices_IndexFunc_string_string _ hr5 S0.sub rs3) ?_
  rintro _ w7 ⟨h8, s9, rfl⟩
  have S10 := S0.trans0 s9
  refine WL.val rfl rfl rfl (ov_geq rfl rfl) ?_
  refine WL.val rfl rfl rfl (ov_assign rfl) ?_
  refine WL.nil ?_
  refine WQ.seqN ?_
  refine WC.ret ?_
  refine WQ.ret1 rfl rfl ?_
  obtain rfl := Option.some.inj HF
  exact ⟨_, rfl, h8, S10, rfl⟩
theorem ok_slices_ContainsFunc_string_string (k : Nat) : C_slices_ContainsFunc_string_string (F_slices_ContainsFunc_string_string k) := s_slices_ContainsFunc_string_string k

def C_ast_AreNames (φ : (List ByteArray) → Option Bool) : Prop := ∀ ⦃xs1 : List ByteArray⦄ ⦃r : Bool⦄, φ xs1 = some r → ∀ ⦃w0 : World⦄ ⦃h0 : Hp⦄ ⦃v2 : Value⦄, Sub h0 w0 → RS h0 v2 xs1 →
  Calls Tryz.prog 86 #[v2] w0 fun e w1 => ∃ v, e = .returned v ∧ ∃ h1, Stp [] w0 h0 w1 h1 ∧ v = .bool r
set_option maxRecDepth 20000 in
set_option maxHeartbeats 4000000 in
theorem s_ast_AreNames (k : Nat) : C_ast_AreNames (F_ast_AreNames k) := by
  intro xs1 r HF w0 h0 v2 hs0 rs3
  have S0 : Stp [] w0 h0 w0 h0 := Stp.refl hs0 _
  refine enter (n := 6) Tryz.func86 rfl Tryz.ntmps86 rfl [(0, v2)] rfl ?_
  refine WC.seq ?_
  refine WC.region ?_
  refine WL.val rfl rfl rfl (ov_assign rfl) ?_
  refine WL.nil ?_
  refine WQ.seqN ?_
  refine WC.seq ?_
  refine WC.region ?_
  refine WL.val rfl rfl rfl (ov_move rfl) ?_
  obtain ⟨r4, hr5, HF⟩ := bind_some HF
  refine WL.call rfl rfl rfl (oc_func (vs := [v2, .func (.func 108) #[] #[]]) rfl t_ent_107) (ok_slices_ContainsFunc_string_string _ hr5 S0.sub rs3) ?_
  rintro _ w7 ⟨h8, s9, rfl⟩
  have S10 := S0.trans0 s9
  refine WL.val rfl rfl rfl (ov_not rfl) ?_
  refine WL.val rfl rfl rfl (ov_assign rfl) ?_
  refine WL.nil ?_
  refine WQ.seqN ?_
  refine WC.ret ?_
  refine WQ.ret1 rfl rfl ?_
  obtain rfl := Option.some.inj HF
  exact ⟨_, rfl, h8, S10, rfl⟩
theorem ok_ast_AreNames (k : Nat) : C_ast_AreNames (F_ast_AreNames k) := s_ast_AreNames k
end Go.Proofs.YtaknpdhmhifpeaaGreatDoor
