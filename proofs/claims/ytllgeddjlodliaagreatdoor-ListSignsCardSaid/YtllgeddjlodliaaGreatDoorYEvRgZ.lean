/- ListSigns: what its rounds come to. No condition. -/
import Derived.Test.YtllgeddjlodliaaGreatDoorYEvRg0
import Derived.Test.YtllgeddjlodliaaGreatDoorYEvRg1
import Derived.Test.YtllgeddjlodliaaGreatDoorYEvRg2
import Derived.Test.YtllgeddjlodliaaGreatDoorYEvRg3
import Derived.Test.YtllgeddjlodliaaGreatDoorYEvRg4
import Derived.Test.YtllgeddjlodliaaGreatDoorYEvRg5
import Derived.Test.YtllgeddjlodliaaGreatDoorYEvRg6
import Derived.Test.YtllgeddjlodliaaGreatDoorYEvRg7
import Derived.Test.YtllgeddjlodliaaGreatDoorYEvRg8
import Derived.Test.YtllgeddjlodliaaGreatDoorYEvRg9
import Derived.Test.YtllgeddjlodliaaGreatDoorYEvRg10
import Derived.Test.YtllgeddjlodliaaGreatDoorYEvRg11
namespace Go.Proofs.YtllgeddjlodliaaGreatDoor
theorem rg_at {p : Nat → Bool} {a n : Nat} (h : ((List.range n).all fun k => p (k + a)) = true) {k : Nat} (h1 : a ≤ k) (h2 : k < a + n) : p k = true := by
  have := List.all_eq_true.1 h (k - a) (List.mem_range.2 (by omega))
  rw [show k - a + a = k by omega] at this
  exact this
theorem rgR_all (k : Nat) (h : k < 500) : fR k = true := by
  by_cases h0 : k < 11
  · exact rg_at rgR0 (by omega) (by omega)
  by_cases h1 : k < 22
  · exact rg_at rgR11 (by omega) (by omega)
  by_cases h2 : k < 33
  · exact rg_at rgR22 (by omega) (by omega)
  by_cases h3 : k < 44
  · exact rg_at rgR33 (by omega) (by omega)
  by_cases h4 : k < 55
  · exact rg_at rgR44 (by omega) (by omega)
  by_cases h5 : k < 66
  · exact rg_at rgR55 (by omega) (by omega)
  by_cases h6 : k < 77
  · exact rg_at rgR66 (by omega) (by omega)
  by_cases h7 : k < 88
  · exact rg_at rgR77 (by omega) (by omega)
  by_cases h8 : k < 99
  · exact rg_at rgR88 (by omega) (by omega)
  by_cases h9 : k < 110
  · exact rg_at rgR99 (by omega) (by omega)
  by_cases h10 : k < 121
  · exact rg_at rgR110 (by omega) (by omega)
  by_cases h11 : k < 132
  · exact rg_at rgR121 (by omega) (by omega)
  by_cases h12 : k < 143
  · exact rg_at rgR132 (by omega) (by omega)
  by_cases h13 : k < 154
  · exact rg_at rgR143 (by omega) (by omega)
  by_cases h14 : k < 164
  · exact rg_at rgR154 (by omega) (by omega)
  by_cases h15 : k < 176
  · exact rg_at rgR164 (by omega) (by omega)
  by_cases h16 : k < 188
  · exact rg_at rgR176 (by omega) (by omega)
  by_cases h17 : k < 199
  · exact rg_at rgR188 (by omega) (by omega)
  by_cases h18 : k < 210
  · exact rg_at rgR199 (by omega) (by omega)
  by_cases h19 : k < 221
  · exact rg_at rgR210 (by omega) (by omega)
  by_cases h20 : k < 231
  · exact rg_at rgR221 (by omega) (by omega)
  by_cases h21 : k < 241
  · exact rg_at rgR231 (by omega) (by omega)
  by_cases h22 : k < 251
  · exact rg_at rgR241 (by omega) (by omega)
  by_cases h23 : k < 261
  · exact rg_at rgR251 (by omega) (by omega)
  by_cases h24 : k < 270
  · exact rg_at rgR261 (by omega) (by omega)
  by_cases h25 : k < 279
  · exact rg_at rgR270 (by omega) (by omega)
  by_cases h26 : k < 288
  · exact rg_at rgR279 (by omega) (by omega)
  by_cases h27 : k < 297
  · exact rg_at rgR288 (by omega) (by omega)
  by_cases h28 : k < 306
  · exact rg_at rgR297 (by omega) (by omega)
  by_cases h29 : k < 315
  · exact rg_at rgR306 (by omega) (by omega)
  by_cases h30 : k < 323
  · exact rg_at rgR315 (by omega) (by omega)
  by_cases h31 : k < 331
  · exact rg_at rgR323 (by omega) (by omega)
  by_cases h32 : k < 339
  · exact rg_at rgR331 (by omega) (by omega)
  by_cases h33 : k < 347
  · exact rg_at rgR339 (by omega) (by omega)
  by_cases h34 : k < 355
  · exact rg_at rgR347 (by omega) (by omega)
  by_cases h35 : k < 363
  · exact rg_at rgR355 (by omega) (by omega)
  by_cases h36 : k < 371
  · exact rg_at rgR363 (by omega) (by omega)
  by_cases h37 : k < 378
  · exact rg_at rgR371 (by omega) (by omega)
  by_cases h38 : k < 385
  · exact rg_at rgR378 (by omega) (by omega)
  by_cases h39 : k < 392
  · exact rg_at rgR385 (by omega) (by omega)
  by_cases h40 : k < 399
  · exact rg_at rgR392 (by omega) (by omega)
  by_cases h41 : k < 406
  · exact rg_at rgR399 (by omega) (by omega)
  by_cases h42 : k < 413
  · exact rg_at rgR406 (by omega) (by omega)
  by_cases h43 : k < 420
  · exact rg_at rgR413 (by omega) (by omega)
  by_cases h44 : k < 427
  · exact rg_at rgR420 (by omega) (by omega)
  by_cases h45 : k < 434
  · exact rg_at rgR427 (by omega) (by omega)
  by_cases h46 : k < 441
  · exact rg_at rgR434 (by omega) (by omega)
  by_cases h47 : k < 448
  · exact rg_at rgR441 (by omega) (by omega)
  by_cases h48 : k < 455
  · exact rg_at rgR448 (by omega) (by omega)
  by_cases h49 : k < 461
  · exact rg_at rgR455 (by omega) (by omega)
  by_cases h50 : k < 467
  · exact rg_at rgR461 (by omega) (by omega)
  by_cases h51 : k < 473
  · exact rg_at rgR467 (by omega) (by omega)
  by_cases h52 : k < 479
  · exact rg_at rgR473 (by omega) (by omega)
  by_cases h53 : k < 485
  · exact rg_at rgR479 (by omega) (by omega)
  by_cases h54 : k < 491
  · exact rg_at rgR485 (by omega) (by omega)
  by_cases h55 : k < 497
  · exact rg_at rgR491 (by omega) (by omega)
  exact rg_at rgR497 (by omega) (by omega)
theorem rgD_all (k : Nat) (h : k ≤ 500) : fD k = true := by
  by_cases h0 : k < 21
  · exact rg_at rgD0 (by omega) (by omega)
  by_cases h1 : k < 42
  · exact rg_at rgD21 (by omega) (by omega)
  by_cases h2 : k < 63
  · exact rg_at rgD42 (by omega) (by omega)
  by_cases h3 : k < 84
  · exact rg_at rgD63 (by omega) (by omega)
  by_cases h4 : k < 105
  · exact rg_at rgD84 (by omega) (by omega)
  by_cases h5 : k < 126
  · exact rg_at rgD105 (by omega) (by omega)
  by_cases h6 : k < 147
  · exact rg_at rgD126 (by omega) (by omega)
  by_cases h7 : k < 168
  · exact rg_at rgD147 (by omega) (by omega)
  by_cases h8 : k < 183
  · exact rg_at rgD168 (by omega) (by omega)
  by_cases h9 : k < 207
  · exact rg_at rgD183 (by omega) (by omega)
  by_cases h10 : k < 230
  · exact rg_at rgD207 (by omega) (by omega)
  by_cases h11 : k < 252
  · exact rg_at rgD230 (by omega) (by omega)
  by_cases h12 : k < 273
  · exact rg_at rgD252 (by omega) (by omega)
  by_cases h13 : k < 293
  · exact rg_at rgD273 (by omega) (by omega)
  by_cases h14 : k < 313
  · exact rg_at rgD293 (by omega) (by omega)
  by_cases h15 : k < 332
  · exact rg_at rgD313 (by omega) (by omega)
  by_cases h16 : k < 351
  · exact rg_at rgD332 (by omega) (by omega)
  by_cases h17 : k < 369
  · exact rg_at rgD351 (by omega) (by omega)
  by_cases h18 : k < 387
  · exact rg_at rgD369 (by omega) (by omega)
  by_cases h19 : k < 404
  · exact rg_at rgD387 (by omega) (by omega)
  by_cases h20 : k < 421
  · exact rg_at rgD404 (by omega) (by omega)
  by_cases h21 : k < 437
  · exact rg_at rgD421 (by omega) (by omega)
  by_cases h22 : k < 453
  · exact rg_at rgD437 (by omega) (by omega)
  by_cases h23 : k < 469
  · exact rg_at rgD453 (by omega) (by omega)
  by_cases h24 : k < 484
  · exact rg_at rgD469 (by omega) (by omega)
  by_cases h25 : k < 499
  · exact rg_at rgD484 (by omega) (by omega)
  exact rg_at rgD499 (by omega) (by omega)
theorem sgFacts : SgFacts where
  a n k h hn := by
    have := rgR_all k h
    unfold fR at this
    simp only [Bool.and_eq_true] at this
    rcases hn with rfl | rfl
    · exact this.1
    · exact this.2.1
  c k h := by
    have := rgR_all k h
    unfold fR at this
    simp only [Bool.and_eq_true] at this
    exact this.2.2
  d k h := rgD_all k h
theorem fM_true : fM = true := by
  have := rgM
  simp only [Bool.and_eq_true] at this
  exact this.1
theorem fW_true : fW = true := by
  have := rgM
  simp only [Bool.and_eq_true] at this
  exact this.2.1
theorem fE_true : fE = true := by
  have := rgM
  simp only [Bool.and_eq_true] at this
  exact this.2.2
end Go.Proofs.YtllgeddjlodliaaGreatDoor
