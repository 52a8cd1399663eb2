/-
  The curve's sums as identities of whole numbers. Conditions: none.
-/
namespace Ev

/-- how far a pair is from the curve -/
def offC (d x y : Int) : Int := y * y - x * x - 1 - d * x * x * y * y
def eS (x1 y1 x2 y2 : Int) : Int := x1 * y2 + x2 * y1
def hS (x1 y1 x2 y2 : Int) : Int := y1 * y2 + x1 * x2
def gS (d x1 y1 x2 y2 : Int) : Int := 1 + d * x1 * y1 * x2 * y2
def fS (d x1 y1 x2 y2 : Int) : Int := 1 - d * x1 * y1 * x2 * y2

theorem closed_id (d x1 y1 x2 y2 : Int) :
    hS x1 y1 x2 y2 * hS x1 y1 x2 y2 * (gS d x1 y1 x2 y2 * gS d x1 y1 x2 y2) - eS x1 y1 x2 y2 * eS x1 y1 x2 y2 * (fS d x1 y1 x2 y2 * fS d x1 y1 x2 y2) - fS d x1 y1 x2 y2 * fS d x1 y1 x2 y2 * (gS d x1 y1 x2 y2 * gS d x1 y1 x2 y2) - d * (eS x1 y1 x2 y2 * eS x1 y1 x2 y2) * (hS x1 y1 x2 y2 * hS x1 y1 x2 y2) =
      (y2 * y2 * y2 * y2 - 4 * x2 * x2 * y2 * y2 - 2 * x2 * x2 * y2 * y2 * d + 2 * x2 * x2 * y2 * y2 * y2 * y2 + x2 * x2 * x2 * x2 - 2 * x2 * x2 * x2 * x2 * y2 * y2 - 2 * x2 * x2 * x2 * x2 * y2 * y2 * y2 * y2 * d - x2 * x2 * x2 * x2 * y2 * y2 * y2 * y2 * d * d - y1 * y1 * x2 * x2 * y2 * y2 * y2 * y2 * d + y1 * y1 * x2 * x2 * x2 * x2 * y2 * y2 * d + y1 * y1 * x2 * x2 * x2 * x2 * y2 * y2 * y2 * y2 * d * d + x1 * x1 * x2 * x2 * y2 * y2 * y2 * y2 * d - x1 * x1 * x2 * x2 * x2 * x2 * y2 * y2 * d - x1 * x1 * x2 * x2 * x2 * x2 * y2 * y2 * y2 * y2 * d * d + x1 * x1 * y1 * y1 * x2 * x2 * x2 * x2 * y2 * y2 * y2 * y2 * d * d * d) * offC d x1 y1 + (1 + y2 * y2 - x2 * x2 + 2 * x2 * x2 * y2 * y2 + x2 * x2 * y2 * y2 * d - y1 * y1 * y2 * y2 + y1 * y1 * x2 * x2 - 2 * y1 * y1 * x2 * x2 * y2 * y2 - 2 * y1 * y1 * x2 * x2 * y2 * y2 * d + y1 * y1 * y1 * y1 * x2 * x2 * y2 * y2 * d + x1 * x1 * y2 * y2 - x1 * x1 * x2 * x2 + 2 * x1 * x1 * x2 * x2 * y2 * y2 + 2 * x1 * x1 * x2 * x2 * y2 * y2 * d + x1 * x1 * x1 * x1 * x2 * x2 * y2 * y2 * d) * offC d x2 y2 := by
  unfold offC eS hS gS fS
  grind
def NX (d x1 y1 x2 y2 x3 y3 : Int) : Int := eS x1 y1 x2 y2 * fS d x1 y1 x2 y2 * y3 + hS x1 y1 x2 y2 * gS d x1 y1 x2 y2 * x3
def DX (d x1 y1 x2 y2 x3 y3 : Int) : Int := gS d x1 y1 x2 y2 * fS d x1 y1 x2 y2 + d * eS x1 y1 x2 y2 * hS x1 y1 x2 y2 * x3 * y3
def NY (d x1 y1 x2 y2 x3 y3 : Int) : Int := hS x1 y1 x2 y2 * gS d x1 y1 x2 y2 * y3 + eS x1 y1 x2 y2 * fS d x1 y1 x2 y2 * x3
def DY (d x1 y1 x2 y2 x3 y3 : Int) : Int := gS d x1 y1 x2 y2 * fS d x1 y1 x2 y2 - d * eS x1 y1 x2 y2 * hS x1 y1 x2 y2 * x3 * y3
theorem assocX_id (d x1 y1 x2 y2 x3 y3 : Int) :
    NX d x1 y1 x2 y2 x3 y3 * DX d x2 y2 x3 y3 x1 y1 - NX d x2 y2 x3 y3 x1 y1 * DX d x1 y1 x2 y2 x3 y3 =
      (0 - y1 * x2 * y2 * y2 * y2 * y2 * x3 * x3 * y3 * d - y1 * x2 * x2 * y2 * y2 * y2 * x3 * d - y1 * x2 * x2 * y2 * y2 * y2 * x3 * x3 * x3 * d - y1 * x2 * x2 * x2 * y2 * y2 * y3 * d + y1 * x2 * x2 * x2 * y2 * y2 * y3 * y3 * y3 * d + y1 * x2 * x2 * x2 * y2 * y2 * y2 * y2 * x3 * x3 * y3 * d * d + y1 * x2 * x2 * x2 * x2 * y2 * x3 * y3 * y3 * d + y1 * x2 * x2 * x2 * x2 * y2 * y2 * y2 * x3 * y3 * y3 * d * d + x1 * x2 * y2 * y2 * y2 * y2 * x3 * y3 * y3 * d - x1 * x2 * x2 * y2 * y2 * y2 * y3 * d + x1 * x2 * x2 * y2 * y2 * y2 * y3 * y3 * y3 * d - x1 * x2 * x2 * x2 * y2 * y2 * x3 * d - x1 * x2 * x2 * x2 * y2 * y2 * x3 * x3 * x3 * d - x1 * x2 * x2 * x2 * y2 * y2 * y2 * y2 * x3 * y3 * y3 * d * d - x1 * x2 * x2 * x2 * x2 * y2 * x3 * x3 * y3 * d - x1 * x2 * x2 * x2 * x2 * y2 * y2 * y2 * x3 * x3 * y3 * d * d) * offC d x1 y1 + (y1 * y2 * x3 - y1 * y2 * x3 * y3 * y3 + y1 * y2 * x3 * x3 * x3 + y1 * y2 * x3 * x3 * x3 * y3 * y3 * d + y1 * x2 * y3 - y1 * x2 * y3 * y3 * y3 + y1 * x2 * x3 * x3 * y3 + y1 * x2 * x3 * x3 * y3 * y3 * y3 * d - y1 * x2 * y2 * y2 * x3 * x3 * y3 * d - y1 * x2 * x2 * y2 * x3 * y3 * y3 * d - y1 * y1 * y1 * y2 * x3 + y1 * y1 * y1 * y2 * x3 * y3 * y3 - y1 * y1 * y1 * y2 * x3 * x3 * x3 - y1 * y1 * y1 * y2 * x3 * x3 * x3 * y3 * y3 * d - y1 * y1 * y1 * x2 * y3 + y1 * y1 * y1 * x2 * y3 * y3 * y3 - y1 * y1 * y1 * x2 * x3 * x3 * y3 - y1 * y1 * y1 * x2 * x3 * x3 * y3 * y3 * y3 * d + y1 * y1 * y1 * x2 * y2 * y2 * x3 * x3 * y3 * d + y1 * y1 * y1 * x2 * x2 * y2 * x3 * y3 * y3 * d + x1 * y2 * y3 - x1 * y2 * y3 * y3 * y3 + x1 * y2 * x3 * x3 * y3 + x1 * y2 * x3 * x3 * y3 * y3 * y3 * d + x1 * x2 * x3 - x1 * x2 * x3 * y3 * y3 + x1 * x2 * x3 * x3 * x3 + x1 * x2 * x3 * x3 * x3 * y3 * y3 * d + x1 * x2 * y2 * y2 * x3 * y3 * y3 * d + x1 * x2 * x2 * y2 * x3 * x3 * y3 * d - x1 * y1 * y1 * y2 * y3 + x1 * y1 * y1 * y2 * y3 * y3 * y3 - x1 * y1 * y1 * y2 * x3 * x3 * y3 - x1 * y1 * y1 * y2 * x3 * x3 * y3 * y3 * y3 * d - x1 * y1 * y1 * x2 * x3 + x1 * y1 * y1 * x2 * x3 * y3 * y3 - x1 * y1 * y1 * x2 * x3 * x3 * x3 - x1 * y1 * y1 * x2 * x3 * x3 * x3 * y3 * y3 * d - x1 * y1 * y1 * x2 * y2 * y2 * x3 * y3 * y3 * d + x1 * y1 * y1 * x2 * y2 * y2 * x3 * x3 * x3 * y3 * y3 * d * d - x1 * y1 * y1 * x2 * x2 * y2 * x3 * x3 * y3 * d - x1 * y1 * y1 * x2 * x2 * y2 * x3 * x3 * y3 * y3 * y3 * d * d + x1 * x1 * y1 * y2 * x3 - x1 * x1 * y1 * y2 * x3 * y3 * y3 + x1 * x1 * y1 * y2 * x3 * x3 * x3 + x1 * x1 * y1 * y2 * x3 * x3 * x3 * y3 * y3 * d + x1 * x1 * y1 * x2 * y3 - x1 * x1 * y1 * x2 * y3 * y3 * y3 + x1 * x1 * y1 * x2 * x3 * x3 * y3 + x1 * x1 * y1 * x2 * x3 * x3 * y3 * y3 * y3 * d - x1 * x1 * y1 * x2 * y2 * y2 * x3 * x3 * y3 * d - x1 * x1 * y1 * x2 * y2 * y2 * x3 * x3 * y3 * y3 * y3 * d * d - x1 * x1 * y1 * x2 * x2 * y2 * x3 * y3 * y3 * d + x1 * x1 * y1 * x2 * x2 * y2 * x3 * x3 * x3 * y3 * y3 * d * d + x1 * x1 * x1 * y2 * y3 - x1 * x1 * x1 * y2 * y3 * y3 * y3 + x1 * x1 * x1 * y2 * x3 * x3 * y3 + x1 * x1 * x1 * y2 * x3 * x3 * y3 * y3 * y3 * d + x1 * x1 * x1 * x2 * x3 - x1 * x1 * x1 * x2 * x3 * y3 * y3 + x1 * x1 * x1 * x2 * x3 * x3 * x3 + x1 * x1 * x1 * x2 * x3 * x3 * x3 * y3 * y3 * d + x1 * x1 * x1 * x2 * y2 * y2 * x3 * y3 * y3 * d + x1 * x1 * x1 * x2 * x2 * y2 * x3 * x3 * y3 * d) * offC d x2 y2 + (0 - y1 * y2 * x3 + y1 * y2 * y2 * y2 * x3 - y1 * x2 * y3 + y1 * x2 * y2 * y2 * y3 - y1 * x2 * x2 * y2 * x3 - y1 * x2 * x2 * x2 * y3 + y1 * y1 * y1 * y2 * x3 - y1 * y1 * y1 * y2 * y2 * y2 * x3 + y1 * y1 * y1 * x2 * y3 - y1 * y1 * y1 * x2 * y2 * y2 * y3 + y1 * y1 * y1 * x2 * x2 * y2 * x3 + y1 * y1 * y1 * x2 * x2 * x2 * y3 - x1 * y2 * y3 + x1 * y2 * y2 * y2 * y3 - x1 * x2 * x3 + x1 * x2 * y2 * y2 * x3 - x1 * x2 * x2 * y2 * y3 - x1 * x2 * x2 * x2 * x3 + x1 * y1 * y1 * y2 * y3 - x1 * y1 * y1 * y2 * y2 * y2 * y3 + x1 * y1 * y1 * x2 * x3 - x1 * y1 * y1 * x2 * y2 * y2 * x3 - x1 * y1 * y1 * x2 * y2 * y2 * x3 * d + x1 * y1 * y1 * x2 * x2 * y2 * y3 + x1 * y1 * y1 * x2 * x2 * y2 * y3 * d + x1 * y1 * y1 * x2 * x2 * x2 * x3 - x1 * x1 * y1 * y2 * x3 + x1 * x1 * y1 * y2 * y2 * y2 * x3 - x1 * x1 * y1 * x2 * y3 + x1 * x1 * y1 * x2 * y2 * y2 * y3 + x1 * x1 * y1 * x2 * y2 * y2 * y3 * d - x1 * x1 * y1 * x2 * x2 * y2 * x3 - x1 * x1 * y1 * x2 * x2 * y2 * x3 * d - x1 * x1 * y1 * x2 * x2 * x2 * y3 - x1 * x1 * x1 * y2 * y3 + x1 * x1 * x1 * y2 * y2 * y2 * y3 - x1 * x1 * x1 * x2 * x3 + x1 * x1 * x1 * x2 * y2 * y2 * x3 - x1 * x1 * x1 * x2 * x2 * y2 * y3 - x1 * x1 * x1 * x2 * x2 * x2 * x3) * offC d x3 y3 := by
  unfold NX DX offC eS hS gS fS
  grind
theorem assocY_id (d x1 y1 x2 y2 x3 y3 : Int) :
    NY d x1 y1 x2 y2 x3 y3 * DY d x2 y2 x3 y3 x1 y1 - NY d x2 y2 x3 y3 x1 y1 * DY d x1 y1 x2 y2 x3 y3 =
      (y1 * x2 * y2 * y2 * y2 * y2 * x3 * y3 * y3 * d - y1 * x2 * x2 * y2 * y2 * y2 * y3 * d + y1 * x2 * x2 * y2 * y2 * y2 * y3 * y3 * y3 * d - y1 * x2 * x2 * x2 * y2 * y2 * x3 * d - y1 * x2 * x2 * x2 * y2 * y2 * x3 * x3 * x3 * d - y1 * x2 * x2 * x2 * y2 * y2 * y2 * y2 * x3 * y3 * y3 * d * d - y1 * x2 * x2 * x2 * x2 * y2 * x3 * x3 * y3 * d - y1 * x2 * x2 * x2 * x2 * y2 * y2 * y2 * x3 * x3 * y3 * d * d - x1 * x2 * y2 * y2 * y2 * y2 * x3 * x3 * y3 * d - x1 * x2 * x2 * y2 * y2 * y2 * x3 * d - x1 * x2 * x2 * y2 * y2 * y2 * x3 * x3 * x3 * d - x1 * x2 * x2 * x2 * y2 * y2 * y3 * d + x1 * x2 * x2 * x2 * y2 * y2 * y3 * y3 * y3 * d + x1 * x2 * x2 * x2 * y2 * y2 * y2 * y2 * x3 * x3 * y3 * d * d + x1 * x2 * x2 * x2 * x2 * y2 * x3 * y3 * y3 * d + x1 * x2 * x2 * x2 * x2 * y2 * y2 * y2 * x3 * y3 * y3 * d * d) * offC d x1 y1 + (y1 * y2 * y3 - y1 * y2 * y3 * y3 * y3 + y1 * y2 * x3 * x3 * y3 + y1 * y2 * x3 * x3 * y3 * y3 * y3 * d + y1 * x2 * x3 - y1 * x2 * x3 * y3 * y3 + y1 * x2 * x3 * x3 * x3 + y1 * x2 * x3 * x3 * x3 * y3 * y3 * d + y1 * x2 * y2 * y2 * x3 * y3 * y3 * d + y1 * x2 * x2 * y2 * x3 * x3 * y3 * d - y1 * y1 * y1 * y2 * y3 + y1 * y1 * y1 * y2 * y3 * y3 * y3 - y1 * y1 * y1 * y2 * x3 * x3 * y3 - y1 * y1 * y1 * y2 * x3 * x3 * y3 * y3 * y3 * d - y1 * y1 * y1 * x2 * x3 + y1 * y1 * y1 * x2 * x3 * y3 * y3 - y1 * y1 * y1 * x2 * x3 * x3 * x3 - y1 * y1 * y1 * x2 * x3 * x3 * x3 * y3 * y3 * d - y1 * y1 * y1 * x2 * y2 * y2 * x3 * y3 * y3 * d - y1 * y1 * y1 * x2 * x2 * y2 * x3 * x3 * y3 * d + x1 * y2 * x3 - x1 * y2 * x3 * y3 * y3 + x1 * y2 * x3 * x3 * x3 + x1 * y2 * x3 * x3 * x3 * y3 * y3 * d + x1 * x2 * y3 - x1 * x2 * y3 * y3 * y3 + x1 * x2 * x3 * x3 * y3 + x1 * x2 * x3 * x3 * y3 * y3 * y3 * d - x1 * x2 * y2 * y2 * x3 * x3 * y3 * d - x1 * x2 * x2 * y2 * x3 * y3 * y3 * d - x1 * y1 * y1 * y2 * x3 + x1 * y1 * y1 * y2 * x3 * y3 * y3 - x1 * y1 * y1 * y2 * x3 * x3 * x3 - x1 * y1 * y1 * y2 * x3 * x3 * x3 * y3 * y3 * d - x1 * y1 * y1 * x2 * y3 + x1 * y1 * y1 * x2 * y3 * y3 * y3 - x1 * y1 * y1 * x2 * x3 * x3 * y3 - x1 * y1 * y1 * x2 * x3 * x3 * y3 * y3 * y3 * d + x1 * y1 * y1 * x2 * y2 * y2 * x3 * x3 * y3 * d + x1 * y1 * y1 * x2 * y2 * y2 * x3 * x3 * y3 * y3 * y3 * d * d + x1 * y1 * y1 * x2 * x2 * y2 * x3 * y3 * y3 * d - x1 * y1 * y1 * x2 * x2 * y2 * x3 * x3 * x3 * y3 * y3 * d * d + x1 * x1 * y1 * y2 * y3 - x1 * x1 * y1 * y2 * y3 * y3 * y3 + x1 * x1 * y1 * y2 * x3 * x3 * y3 + x1 * x1 * y1 * y2 * x3 * x3 * y3 * y3 * y3 * d + x1 * x1 * y1 * x2 * x3 - x1 * x1 * y1 * x2 * x3 * y3 * y3 + x1 * x1 * y1 * x2 * x3 * x3 * x3 + x1 * x1 * y1 * x2 * x3 * x3 * x3 * y3 * y3 * d + x1 * x1 * y1 * x2 * y2 * y2 * x3 * y3 * y3 * d - x1 * x1 * y1 * x2 * y2 * y2 * x3 * x3 * x3 * y3 * y3 * d * d + x1 * x1 * y1 * x2 * x2 * y2 * x3 * x3 * y3 * d + x1 * x1 * y1 * x2 * x2 * y2 * x3 * x3 * y3 * y3 * y3 * d * d + x1 * x1 * x1 * y2 * x3 - x1 * x1 * x1 * y2 * x3 * y3 * y3 + x1 * x1 * x1 * y2 * x3 * x3 * x3 + x1 * x1 * x1 * y2 * x3 * x3 * x3 * y3 * y3 * d + x1 * x1 * x1 * x2 * y3 - x1 * x1 * x1 * x2 * y3 * y3 * y3 + x1 * x1 * x1 * x2 * x3 * x3 * y3 + x1 * x1 * x1 * x2 * x3 * x3 * y3 * y3 * y3 * d - x1 * x1 * x1 * x2 * y2 * y2 * x3 * x3 * y3 * d - x1 * x1 * x1 * x2 * x2 * y2 * x3 * y3 * y3 * d) * offC d x2 y2 + (0 - y1 * y2 * y3 + y1 * y2 * y2 * y2 * y3 - y1 * x2 * x3 + y1 * x2 * y2 * y2 * x3 - y1 * x2 * x2 * y2 * y3 - y1 * x2 * x2 * x2 * x3 + y1 * y1 * y1 * y2 * y3 - y1 * y1 * y1 * y2 * y2 * y2 * y3 + y1 * y1 * y1 * x2 * x3 - y1 * y1 * y1 * x2 * y2 * y2 * x3 + y1 * y1 * y1 * x2 * x2 * y2 * y3 + y1 * y1 * y1 * x2 * x2 * x2 * x3 - x1 * y2 * x3 + x1 * y2 * y2 * y2 * x3 - x1 * x2 * y3 + x1 * x2 * y2 * y2 * y3 - x1 * x2 * x2 * y2 * x3 - x1 * x2 * x2 * x2 * y3 + x1 * y1 * y1 * y2 * x3 - x1 * y1 * y1 * y2 * y2 * y2 * x3 + x1 * y1 * y1 * x2 * y3 - x1 * y1 * y1 * x2 * y2 * y2 * y3 - x1 * y1 * y1 * x2 * y2 * y2 * y3 * d + x1 * y1 * y1 * x2 * x2 * y2 * x3 + x1 * y1 * y1 * x2 * x2 * y2 * x3 * d + x1 * y1 * y1 * x2 * x2 * x2 * y3 - x1 * x1 * y1 * y2 * y3 + x1 * x1 * y1 * y2 * y2 * y2 * y3 - x1 * x1 * y1 * x2 * x3 + x1 * x1 * y1 * x2 * y2 * y2 * x3 + x1 * x1 * y1 * x2 * y2 * y2 * x3 * d - x1 * x1 * y1 * x2 * x2 * y2 * y3 - x1 * x1 * y1 * x2 * x2 * y2 * y3 * d - x1 * x1 * y1 * x2 * x2 * x2 * x3 - x1 * x1 * x1 * y2 * x3 + x1 * x1 * x1 * y2 * y2 * y2 * x3 - x1 * x1 * x1 * x2 * y3 + x1 * x1 * x1 * x2 * y2 * y2 * y3 - x1 * x1 * x1 * x2 * x2 * y2 * x3 - x1 * x1 * x1 * x2 * x2 * x2 * y3) * offC d x3 y3 := by
  unfold NY DY offC eS hS gS fS
  grind
end Ev

/-
  The curve's sums modulo a prime: complete, closed, associative. Conditions: those named.
-/
namespace Ev

structure SumC (p d x1 y1 x2 y2 x3 y3 : Int) : Prop where
  x : p ∣ x3 * gS d x1 y1 x2 y2 - eS x1 y1 x2 y2
  y : p ∣ y3 * fS d x1 y1 x2 y2 - hS x1 y1 x2 y2
theorem SumC.comm {p d x1 y1 x2 y2 x3 y3 : Int} (h : SumC p d x1 y1 x2 y2 x3 y3) : SumC p d x2 y2 x1 y1 x3 y3 := by
  have e1 : eS x2 y2 x1 y1 = eS x1 y1 x2 y2 := by unfold eS; grind
  have e2 : hS x2 y2 x1 y1 = hS x1 y1 x2 y2 := by unfold hS; grind
  have e3 : gS d x2 y2 x1 y1 = gS d x1 y1 x2 y2 := by unfold gS; grind
  have e4 : fS d x2 y2 x1 y1 = fS d x1 y1 x2 y2 := by unfold fS; grind
  exact ⟨by rw [e1, e3]; exact h.x, by rw [e2, e4]; exact h.y⟩

theorem dvd_add3 {p a b c : Int} (ha : p ∣ a) (hb : p ∣ b) (hc : p ∣ c) : p ∣ a + b + c := Int.dvd_add (Int.dvd_add ha hb) hc
theorem dvd_l {p a : Int} (h : p ∣ a) (b : Int) : p ∣ a * b := Int.dvd_trans h (Int.dvd_mul_right a b)
theorem dvd_r {p a : Int} (h : p ∣ a) (b : Int) : p ∣ b * a := Int.dvd_trans h (Int.dvd_mul_left b a)

/-- what is asked of the prime and the curve's number -/
structure Curve (p d s : Int) : Prop where
  hp : ∀ a b : Int, p ∣ a * b → p ∣ a ∨ p ∣ b
  h1 : ¬ p ∣ 1
  h2 : ¬ p ∣ 2
  hs : p ∣ s * s + 1
  hd : ∀ u v : Int, p ∣ u * u - d * (v * v) → p ∣ v

theorem key_id (d s t x1 y1 x2 y2 : Int) (ht : t * t = 1) : (s * x1 + t * y1) * (s * x1 + t * y1) - d * ((x1 * y1 * (s * x2 + y2)) * (x1 * y1 * (s * x2 + y2))) =
    (s * s + 1) * (x1 * x1 - d * x1 * x1 * y1 * y1 * x2 * x2) + offC d x1 y1 - d * x1 * x1 * y1 * y1 * offC d x2 y2 - (d * x1 * y1 * x2 * y2 - t) * (d * x1 * y1 * x2 * y2 + t + 2 * s * x1 * y1) := by
  unfold offC
  grind

section
variable {p d s : Int} (C : Curve p d s)
include C
theorem mul_ne {a b : Int} (ha : ¬ p ∣ a) (hb : ¬ p ∣ b) : ¬ p ∣ a * b := fun h => (C.hp a b h).elim ha hb
theorem complete {x1 y1 x2 y2 t : Int} (ht : t * t = 1) (o1 : p ∣ offC d x1 y1) (o2 : p ∣ offC d x2 y2) : ¬ p ∣ d * x1 * y1 * x2 * y2 - t := by
  intro he
  have key : ∀ s' : Int, p ∣ s' * s' + 1 → p ∣ x1 * y1 * (s' * x2 + y2) := fun s' hs' => by
    refine C.hd (s' * x1 + t * y1) _ ?_
    rw [key_id d s' t x1 y1 x2 y2 ht]
    exact Int.dvd_sub (Int.dvd_sub (Int.dvd_add (dvd_l hs' _) o1) (dvd_r o2 _)) (dvd_l he _)
  have hone : ∀ z : Int, p ∣ z → (∃ k, d * x1 * y1 * x2 * y2 = z * k) → False := by
    rintro z hz ⟨k, hk⟩
    have h1 : p ∣ t := by
      have : t = d * x1 * y1 * x2 * y2 - (d * x1 * y1 * x2 * y2 - t) := by grind
      rw [this]; exact Int.dvd_sub (by rw [hk]; exact dvd_l hz k) he
    have h2 : p ∣ t * t := dvd_l h1 t
    rw [ht] at h2
    exact C.h1 h2
  have a1 := key s C.hs
  have a2 := key (-s) (by rw [Int.neg_mul_neg]; exact C.hs)
  rcases C.hp _ _ a1 with h | h
  · exact hone _ h ⟨d * x2 * y2, by grind⟩
  rcases C.hp _ _ a2 with h' | h'
  · exact hone _ h' ⟨d * x2 * y2, by grind⟩
  have h3 : p ∣ 2 * y2 := by
    have : 2 * y2 = (s * x2 + y2) + (-s * x2 + y2) := by grind
    rw [this]; exact Int.dvd_add h h'
  rcases C.hp _ _ h3 with h4 | h4
  · exact C.h2 h4
  · exact hone _ h4 ⟨d * x1 * y1 * x2, by grind⟩
theorem f_ne {x1 y1 x2 y2 : Int} (o1 : p ∣ offC d x1 y1) (o2 : p ∣ offC d x2 y2) : ¬ p ∣ fS d x1 y1 x2 y2 := fun h => by
  refine complete C (t := 1) (by decide) o1 o2 ?_
  have : d * x1 * y1 * x2 * y2 - 1 = -fS d x1 y1 x2 y2 := by unfold fS; grind
  rw [this]; exact Int.dvd_neg.2 h
theorem g_ne {x1 y1 x2 y2 : Int} (o1 : p ∣ offC d x1 y1) (o2 : p ∣ offC d x2 y2) : ¬ p ∣ gS d x1 y1 x2 y2 := fun h => by
  refine complete C (t := -1) (by decide) o1 o2 ?_
  have : d * x1 * y1 * x2 * y2 - -1 = gS d x1 y1 x2 y2 := by unfold gS; grind
  rw [this]; exact h
theorem closed {x1 y1 x2 y2 x3 y3 : Int} (o1 : p ∣ offC d x1 y1) (o2 : p ∣ offC d x2 y2) (h : SumC p d x1 y1 x2 y2 x3 y3) : p ∣ offC d x3 y3 := by
  have hf := f_ne C o1 o2
  have hg := g_ne C o1 o2
  have hc := closed_id d x1 y1 x2 y2
  obtain ⟨hx, hy⟩ := h
  generalize eS x1 y1 x2 y2 = e at *
  generalize hS x1 y1 x2 y2 = h at *
  generalize fS d x1 y1 x2 y2 = f at *
  generalize gS d x1 y1 x2 y2 = g at *
  have key : offC d x3 y3 * ((f * f) * (g * g)) = (h * h * (g * g) - e * e * (f * f) - f * f * (g * g) - d * (e * e) * (h * h)) + (y3 * f - h) * ((y3 * f + h) * (g * g - d * (e * e))) - (x3 * g - e) * ((x3 * g + e) * (f * f + d * ((y3 * f) * (y3 * f)))) := by
    unfold offC; grind
  have hk : p ∣ offC d x3 y3 * ((f * f) * (g * g)) := by
    rw [key, hc]
    exact Int.dvd_sub (Int.dvd_add (Int.dvd_add (dvd_r o1 _) (dvd_r o2 _)) (dvd_l hy _)) (dvd_l hx _)
  exact (C.hp _ _ hk).resolve_right (mul_ne C (mul_ne C hf hf) (mul_ne C hg hg))
omit C in
theorem stepX {x1 y1 x2 y2 x3 y3 u v xa ya : Int} (h : SumC p d x1 y1 x2 y2 u v) (ha : SumC p d u v x3 y3 xa ya) : p ∣ xa * DX d x1 y1 x2 y2 x3 y3 - NX d x1 y1 x2 y2 x3 y3 := by
  obtain ⟨hx, hy⟩ := h
  have hxa := ha.x
  unfold DX NX
  generalize eS x1 y1 x2 y2 = e at *
  generalize hS x1 y1 x2 y2 = h at *
  generalize fS d x1 y1 x2 y2 = f at *
  generalize gS d x1 y1 x2 y2 = g at *
  have key : xa * (g * f + d * e * h * x3 * y3) - (e * f * y3 + h * g * x3) = (xa * gS d u v x3 y3 - eS u v x3 y3) * (g * f) + (u * g - e) * (f * y3 - xa * d * x3 * y3 * (v * f)) + (v * f - h) * (g * x3 - xa * d * x3 * y3 * e) := by
    unfold gS eS; grind
  rw [key]
  exact dvd_add3 (dvd_l hxa _) (dvd_l hx _) (dvd_l hy _)
omit C in
theorem stepY {x1 y1 x2 y2 x3 y3 u v xa ya : Int} (h : SumC p d x1 y1 x2 y2 u v) (ha : SumC p d u v x3 y3 xa ya) : p ∣ ya * DY d x1 y1 x2 y2 x3 y3 - NY d x1 y1 x2 y2 x3 y3 := by
  obtain ⟨hx, hy⟩ := h
  have hya := ha.y
  unfold DY NY
  generalize eS x1 y1 x2 y2 = e at *
  generalize hS x1 y1 x2 y2 = h at *
  generalize fS d x1 y1 x2 y2 = f at *
  generalize gS d x1 y1 x2 y2 = g at *
  have key : ya * (g * f - d * e * h * x3 * y3) - (h * g * y3 + e * f * x3) = (ya * fS d u v x3 y3 - hS u v x3 y3) * (g * f) + (u * g - e) * (f * x3 + ya * d * x3 * y3 * (v * f)) + (v * f - h) * (g * y3 + ya * d * x3 * y3 * e) := by
    unfold fS hS; grind
  rw [key]
  exact dvd_add3 (dvd_l hya _) (dvd_l hx _) (dvd_l hy _)
theorem DX_ne {x1 y1 x2 y2 x3 y3 u v : Int} (o1 : p ∣ offC d x1 y1) (o2 : p ∣ offC d x2 y2) (o3 : p ∣ offC d x3 y3) (h : SumC p d x1 y1 x2 y2 u v) : ¬ p ∣ DX d x1 y1 x2 y2 x3 y3 := fun hD => by
  have ou := closed C o1 o2 h
  have hf := f_ne C o1 o2
  have hg := g_ne C o1 o2
  have hG := g_ne C ou o3
  obtain ⟨hx, hy⟩ := h
  unfold DX at hD
  generalize eS x1 y1 x2 y2 = e at *
  generalize hS x1 y1 x2 y2 = h at *
  generalize fS d x1 y1 x2 y2 = f at *
  generalize gS d x1 y1 x2 y2 = g at *
  have key : (g * f) * gS d u v x3 y3 = (g * f + d * e * h * x3 * y3) + (u * g - e) * (d * x3 * y3 * (v * f)) + (v * f - h) * (d * x3 * y3 * e) := by
    unfold gS; grind
  have : p ∣ (g * f) * gS d u v x3 y3 := by rw [key]; exact dvd_add3 hD (dvd_l hx _) (dvd_l hy _)
  exact mul_ne C (mul_ne C hg hf) hG this
theorem DY_ne {x1 y1 x2 y2 x3 y3 u v : Int} (o1 : p ∣ offC d x1 y1) (o2 : p ∣ offC d x2 y2) (o3 : p ∣ offC d x3 y3) (h : SumC p d x1 y1 x2 y2 u v) : ¬ p ∣ DY d x1 y1 x2 y2 x3 y3 := fun hD => by
  have ou := closed C o1 o2 h
  have hf := f_ne C o1 o2
  have hg := g_ne C o1 o2
  have hF := f_ne C ou o3
  obtain ⟨hx, hy⟩ := h
  unfold DY at hD
  generalize eS x1 y1 x2 y2 = e at *
  generalize hS x1 y1 x2 y2 = h at *
  generalize fS d x1 y1 x2 y2 = f at *
  generalize gS d x1 y1 x2 y2 = g at *
  have key : (g * f) * fS d u v x3 y3 = (g * f - d * e * h * x3 * y3) - (u * g - e) * (d * x3 * y3 * (v * f)) - (v * f - h) * (d * x3 * y3 * e) := by
    unfold fS; grind
  have : p ∣ (g * f) * fS d u v x3 y3 := by rw [key]; exact Int.dvd_sub (Int.dvd_sub hD (dvd_l hx _)) (dvd_l hy _)
  exact mul_ne C (mul_ne C hg hf) hF this
/-- sums associate -/
theorem assoc {x1 y1 x2 y2 x3 y3 u v u' v' xa ya xb yb : Int} (o1 : p ∣ offC d x1 y1) (o2 : p ∣ offC d x2 y2) (o3 : p ∣ offC d x3 y3)
    (h12 : SumC p d x1 y1 x2 y2 u v) (ha : SumC p d u v x3 y3 xa ya) (h23 : SumC p d x2 y2 x3 y3 u' v') (hb : SumC p d x1 y1 u' v' xb yb) : p ∣ xa - xb ∧ p ∣ ya - yb := by
  have go : ∀ {xa xb NA NB DA DB : Int}, p ∣ xa * DA - NA → p ∣ xb * DB - NB → p ∣ NA * DB - NB * DA → ¬ p ∣ DA → ¬ p ∣ DB → p ∣ xa - xb := by
    intro xa xb NA NB DA DB h1 h2 h3 hA hB
    have key : (xa - xb) * (DA * DB) = (xa * DA - NA) * DB - (xb * DB - NB) * DA + (NA * DB - NB * DA) := by grind
    have : p ∣ (xa - xb) * (DA * DB) := by rw [key]; exact Int.dvd_add (Int.dvd_sub (dvd_l h1 _) (dvd_l h2 _)) h3
    exact (C.hp _ _ this).resolve_right (mul_ne C hA hB)
  refine ⟨go (stepX h12 ha) (stepX h23 hb.comm) ?_ (DX_ne C o1 o2 o3 h12) (DX_ne C o2 o3 o1 h23), go (stepY h12 ha) (stepY h23 hb.comm) ?_ (DY_ne C o1 o2 o3 h12) (DY_ne C o2 o3 o1 h23)⟩
  · rw [assocX_id]; exact dvd_add3 (dvd_r o1 _) (dvd_r o2 _) (dvd_r o3 _)
  · rw [assocY_id]; exact dvd_add3 (dvd_r o1 _) (dvd_r o2 _) (dvd_r o3 _)
/-- .. and are one -/
theorem sum_one {x1 y1 x2 y2 xa ya xb yb : Int} (o1 : p ∣ offC d x1 y1) (o2 : p ∣ offC d x2 y2) (ha : SumC p d x1 y1 x2 y2 xa ya) (hb : SumC p d x1 y1 x2 y2 xb yb) : p ∣ xa - xb ∧ p ∣ ya - yb := by
  have go : ∀ {a b n g : Int}, p ∣ a * g - n → p ∣ b * g - n → ¬ p ∣ g → p ∣ a - b := by
    intro a b n g h1 h2 hg
    have key : (a - b) * g = (a * g - n) - (b * g - n) := by grind
    exact (C.hp _ _ (by rw [key]; exact Int.dvd_sub h1 h2)).resolve_right hg
  exact ⟨go ha.x hb.x (g_ne C o1 o2), go ha.y hb.y (f_ne C o1 o2)⟩
end
end Ev
