/- The faults of this seat. -/
import Derived.Test.YtgijnchfonfeaaaDoorFkc
import Derived.Test.YtgijnchfonfeaaaDoorFkAt
import Derived.Test.YtgijnchfonfeaaaDoorFkPlace
