/- All shallow forms. Conditions: none. -/
import Derived.Test.YtkclodaplbalfaaDoorGenN0
import Derived.Test.YtkclodaplbalfaaDoorGenN1
import Derived.Test.YtkclodaplbalfaaDoorGenN2
